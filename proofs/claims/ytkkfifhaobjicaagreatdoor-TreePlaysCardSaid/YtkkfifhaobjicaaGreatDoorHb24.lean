/- Functions of qo1 results: what they answer. -/
/- package wal: the head that counts, of both. -/
/- package wal: the sheets that lie in their places. -/
/- package wal: the texts from a number on. -/
/- package wal: Format. -/
/- package wal: the sheets that lie in their places, as sheets; a log in memory. -/
/- package wal: what a log says of itself. -/
import Derived.Test.YtkkfifhaobjicaaGreatDoorHb02
import Derived.Test.YtkkfifhaobjicaaGreatDoorHb23
import Derived.Scope
namespace Go.Eng
open Go Go.RowKit
variable {P : Program} {N : Fm} {l : zat} {H : World → Prop} {w0 : World} {F : Nat → Prop} {m : List Item}
theorem qj6 {n : Nat} {fn : Func} {R : Ending → World → Prop} {r q p : ResultVar} {v u t : Value} (hf : fn.results = #[r, q, p]) (h1 : zfd P l H r v) (h2 : zfd P l H q u) (h3 : zfd P l H p t) (h : ∀ w, H w → R (.returned (.tuple #[v, u, t])) w) : HX (bodyPost P fn R) .ret ⟨n, [], none⟩ l H := by
 unfold HX
 intro a w s hw
 have e1 := zd9 h1 s hw
 have e2 := zd9 h2 s hw
 have e3 := zd9 h3 s hw
 refine bodyPost_ret (v := .tuple #[v, u, t]) ?_ s.defers (h w hw)
 cases r with
 | tmp t1 =>
  simp only [] at e1
  cases q with
  | tmp t2 =>
   simp only [] at e2
   cases p with
   | tmp t3 => simp only [] at e3; simp [results, hf, e1, e2, e3]
   | cell t3 ty3 => obtain ⟨z, ez, e3⟩ := e3; simp [results, hf, e1, e2, ez, asAddr, e3]
  | cell t2 ty2 =>
   obtain ⟨y, ey, e2⟩ := e2
   cases p with
   | tmp t3 => simp only [] at e3; simp [results, hf, e1, ey, asAddr, e2, e3]
   | cell t3 ty3 => obtain ⟨z, ez, e3⟩ := e3; simp [results, hf, e1, ey, e2, ez, asAddr, e3]
 | cell t1 ty1 =>
  obtain ⟨x, ex, e1⟩ := e1
  cases q with
  | tmp t2 =>
   simp only [] at e2
   cases p with
   | tmp t3 => simp only [] at e3; simp [results, hf, ex, asAddr, e1, e2, e3]
   | cell t3 ty3 => obtain ⟨z, ez, e3⟩ := e3; simp [results, hf, ex, e1, e2, ez, asAddr, e3]
  | cell t2 ty2 =>
   obtain ⟨y, ey, e2⟩ := e2
   cases p with
   | tmp t3 => simp only [] at e3; simp [results, hf, ex, e1, ey, asAddr, e2, e3]
   | cell t3 ty3 => obtain ⟨z, ez, e3⟩ := e3; simp [results, hf, ex, e1, ey, e2, ez, asAddr, e3]
theorem zvr {n : Nat} {fn : Func} {r q p : ResultVar} {α : Type} {val : α → Value} {φ : α → Prop} {its : α → List Item} {u t v : Value} (x : α) (hf : fn.results = #[r, q, p]) (h1 : zfd P l (Hp w0 F m) r u) (h2 : zfd P l (Hp w0 F m) q t) (h3 : zfd P l (Hp w0 F m) p v) (e : .tuple #[u, t, v] = val x) (hφ : φ x) (hs : (its x).Sublist m) (hst : ∀ it ∈ its x, it.Stable none') : HX (bodyPost P fn (zkv w0 F val φ its)) .ret ⟨n, [], none⟩ l (Hp w0 F m) :=
 qj6 hf h1 h2 h3 fun _ hw => ⟨x, by rw [e], hφ, hw.its hs hst⟩
end Go.Eng
namespace Go.Proofs.YtkkfifhaobjicaaGreatDoor
open Go.RowKit Go.Eng
set_option maxRecDepth 100000
set_option maxHeartbeats 40000000
def zdb (D : Dsk) : Nat → Hd × Int
 | 0 => (zyl, -1)
 | i + 1 => zie (zch D i) i (zdb D i)
theorem zm2 (d : Dk) (ok : d.D.Ok) (hlive : d.D.dead = false) (hwl : d.D.wait.length ≤ 1000000000) (h2 : 2 ≤ d.D.on.length) (w : World) (hw : ∀ it ∈ [dkI d, ctI], za2 it w) (ha : [dkI d, ctI].Pairwise Eng.Item.Apart) :
  Ct Tryz.prog 124 #[.pointer (some ⟨d.b, 0, none⟩)] w (zap [dkI d, ctI]) (fun _ : Unit => .tuple #[.agg (hdA (zdb d.D 2).1), .int .i64 (zdb d.D 2).2, .int .i64 0]) (fun _ => True) (fun _ => [dkI d, ctI]) := by
 refine zbd [_] _ Tryz.func124 rfl rfl hw ha ?_
 simp only [zaa]
 refine goA ?_
 refine zd2 rfl rfl rfl fun bx _ => ?_
 refine goA ?_
 refine zan rfl rfl fun b2 hb2 => ?_
 refine goA ?_
 refine zan rfl rfl fun b5 hb5 => ?_
 refine goA ?_
 refine zeb rfl rfl rfl fun b6 hb6 => ?_
 refine goA ?_
 refine za0 rfl (zak (zci _ _ _) (zai (cs' := hdA zyl) rfl rfl rfl rfl rfl rfl)) fun _ => ?_
 refine goA ?_
 refine za0 rfl (zak (zci _ _ _) (zaj rfl rfl rfl rfl rfl rfl (by simp))) fun _ => ?_
 refine goA ?_
 refine l_w rfl (znm rfl) ?_
 refine goA ?_
 have hL : ∀ i, zqu bx b6 b5 d (zdb d.D i) = [pt b6 (.cells #[.int .i64 (zdb d.D i).2] 3 (0, 0)), pt b5 (.cells (hdA (zdb d.D i).1) 195 (0, 0)), pt bx (.cells #[.pointer (some ⟨d.b, 0, none⟩)] 63 (0, 0)), dkI d, ctI] := fun _ => rfl
 refine zct (α := Nat) (fun i => [(2, .pointer (some ⟨b2, 0, none⟩)), (3, .int .i64 0), (4, .int .i64 0), (5, .pointer (some ⟨b5, 0, none⟩)), (6, .pointer (some ⟨b6, 0, none⟩)), (7, .func (.func 158) #[] #[.pointer (some ⟨bx, 0, none⟩), .pointer (some ⟨b6, 0, none⟩), .pointer (some ⟨b5, 0, none⟩)]), (12, .int .i64 i)]) (fun i => i ≤ 2)
  (fun i => zqu bx b6 b5 d (zdb d.D i) ++ [pt b2 (.cells (hdA zyl) 195 (0, 0))]) (fun i => 2 - i) 0 ⟨rfl, rfl, rfl, rfl, rfl, rfl, rfl, trivial⟩ (Nat.zero_le _) (fun w' hw' => hw'.pick [0, 1, 3, 4, 5, 2] rfl rfl) fun i hi => ?_
 by_cases hi2 : i < 2
 ·have hl : zdb d.D (i + 1) = zie (zch d.D i) i (zdb d.D i) := rfl
  refine goA ?_
  refine zae rfl (qhk (pre := zqu bx b6 b5 d (zdb d.D i)) (fs := []) (cs := [.pointer (some ⟨bx, 0, none⟩), .pointer (some ⟨b6, 0, none⟩), .pointer (some ⟨b5, 0, none⟩)]) rfl (by kernel_rfl) rfl rfl rfl (znb _ _ _ _ _) (fun w1 hw1 hh1 ha1 => qby d ok hlive hwl i (by omega) bx b6 b5 (zdb d.D i) w1 hh1 ha1)) fun ⟨_, _⟩ => ?_
  rw [← hl]
  refine goA ?_
  exact zay (i + 1) ⟨rfl, rfl, rfl, rfl, rfl, rfl, rfl, trivial⟩ (show i + 1 ≤ 2 by omega) (fun w' hw' => hw') (by show 2 - (i + 1) < 2 - i; omega)
 ·obtain rfl : i = 2 := by omega
  refine goA ?_
  refine zku (m' := [pt b2 (.cells (hdA zyl) 195 (0, 0)), pt b6 (.cells #[.int .i64 (zdb d.D 2).2] 3 (0, 0)), pt b5 (.cells (hdA (zdb d.D 2).1) 195 (0, 0)), pt bx (.cells #[.pointer (some ⟨d.b, 0, none⟩)] 63 (0, 0)), dkI d, ctI]) (fun w' hw' => hw'.pick [5, 0, 1, 2, 3, 4] rfl rfl) ?_
  generalize zdb d.D 2 = q
  refine zaq [1, 2, 3, 4, 5] 5 rfl rfl (by kernel_rfl) ?_
  refine goE ?_
  refine zau 2 ⟨by kernel_rfl, by decide⟩ rfl rfl (zai (cs' := hdA q.1) rfl rfl rfl rfl rfl rfl) (fun _ _ h => goH h) fun _ => ?_
  refine goE ?_
  refine zbs (by kernel_rfl) ?_
  refine goA ?_
  exact zvr () rfl ⟨_, rfl, zas rfl (.head _)⟩ rfl rfl rfl trivial (.cons _ (.cons _ (.cons _ (.cons _ (.refl _))))) (by intro it hm; rcases hm with _ | ⟨_, _ | ⟨_, hm⟩⟩ <;> first | exact zad _ | exact zcz _ | exact (nomatch hm))
def qbe (b : Bys) (n i : Nat) (A : zck) : zck := if zid b && decide (zbh (zf6 b).seq n = 2 + i) then zss A (zf6 b).seq (.agg (zrq (zf6 b))) else A
def zgl (D : Dsk) (n : Nat) : Nat → zck
 | 0 => []
 | i + 1 => qbe (zch D (2 + i)) n i (zgl D n i)
theorem zzw (b : Bys) : (zf6 b).seq < 18446744073709551616 := by
 unfold zf6
 split
 ·exact zqv 8 (b, false)
 ·decide
theorem okU {n : Nat} (h : n < 18446744073709551616) : okN .u64 n := by
 simp [okN, Lit.wf, IntKind.min, IntKind.max, IntKind.signed, IntKind.bits]
 omega
theorem zof (d : Dk) (ok : d.D.Ok) (hlive : d.D.dead = false) (hwl : d.D.wait.length ≤ 1000000000) (n : Nat) (hn0 : 0 < n) (hn : 2 + n ≤ d.D.on.length) (w : World) (hd : za2 (dkI d) w) (ht : zqg w) :
  Ct Tryz.prog 125 #[.pointer (some ⟨d.b, 0, none⟩), .int .i64 n] w none' (fun b : Nat => .tuple #[.map (some b), .int .i64 0]) (fun _ => True) (fun b => [zd6 .u64 b (zgl d.D n n)]) := by
 refine zfo [_, _] Tryz.func125 rfl rfl ?_
 have hmany := ok.many
 simp only [zaa, Nat.reduceAdd]
 refine goA ?_
 refine za0 rfl (zgd (q := .u64) rfl) fun ⟨b, hb⟩ => ?_
 dsimp only
 refine goA ?_
 refine zct (α := Nat) (fun i => [(0, .pointer (some ⟨d.b, 0, none⟩)), (1, .int .i64 n), (6, .map (some b)), (13, .int .i64 n), (14, .int .i64 i)]) (fun i => i ≤ n) (fun i => [zd6 .u64 b (zgl d.D n i)]) (fun i => n - i) 0 ⟨rfl, rfl, rfl, rfl, rfl, trivial⟩ (Nat.zero_le _) (fun w' hw' => hw') fun i hi => ?_
 by_cases hi2 : i < n
 ·have hl : zgl d.D n (i + 1) = qbe (zch d.D (2 + i)) n i (zgl d.D n i) := rfl
  generalize zgl d.D n i = A at hl
  refine goA ?_
  refine ze5 rfl rfl (by kernel_rfl) rfl (fun w1 hw1 => zmh d ok hlive (2 + i) (by omega) hwl w1 (hd.keep hw1)) fun x hx => ?_
  have hcl := ztc ok (i := 2 + i) (by omega)
  refine goA ?_
  refine zae rfl (zag rfl (by kernel_rfl) rfl (fun w1 hw1 => zvu (some ⟨x, 0, none⟩) 512 512 (zch d.D (2 + i)) hcl (by decide) w1 (Rd.mk (hw1.item (rdI x (zch d.D (2 + i))) (.head _)).1.1) (ht.keep hw1))) fun _ => ?_
  have hsq := zzw (zch d.D (2 + i))
  unfold qbe at hl
  generalize zf6 (zch d.D (2 + i)) = s at hl hsq
  generalize zid (zch d.D (2 + i)) = k at hl
  refine goA ?_
  refine zan rfl rfl fun b10 hb10 => ?_
  refine za0 rfl (zai (cs' := zrq s) rfl rfl rfl rfl rfl rfl) fun _ => ?_
  refine goA ?_
  cases k with
  | false =>
   rw [Bool.false_and, if_neg (by decide)] at hl
   simp only [Bool.false_eq_true, if_false]
   refine goA ?_
   refine zay (i + 1) ⟨rfl, rfl, rfl, rfl, rfl, trivial⟩ (show i + 1 ≤ n by omega) (fun w' hw' => by rw [hl]; exact hw'.sub (.cons _ (.cons _ (.refl _)))) (by show n - (i + 1) < n - i; omega)
  | true =>
   rw [Bool.true_and] at hl
   simp only [if_true]
   refine goA ?_
   refine zae rfl (zag rfl (by kernel_rfl) rfl (fun w1 hw1 => zwq s.seq n hsq hn0 (by omega) w1)) fun _ => ?_
   refine goA ?_
   have e : (((zbh s.seq n : Nat) : Int) == ((2 + i : Nat) : Int)) = decide (zbh s.seq n = 2 + i) := by
    by_cases h : zbh s.seq n = 2 + i
    ·rw [h, decide_eq_true rfl]; exact beq_self_eq_true _
    ·rw [decide_eq_false h]; exact beq_eq_false_iff_ne.2 (fun hh => h (Int.ofNat.inj hh))
   rw [e]
   by_cases hq : zbh s.seq n = 2 + i
   ·rw [decide_eq_true hq, if_pos rfl] at hl
    rw [decide_eq_true hq]
    refine goA ?_
    refine za0 rfl (zak (zc9 _ _ _ _) (zjd (q := .u64) (h := s.seq) rfl rfl rfl rfl rfl rfl (okU hsq))) fun _ => ?_
    refine goA ?_
    refine zay (i + 1) ⟨rfl, rfl, rfl, rfl, rfl, trivial⟩ (show i + 1 ≤ n by omega) (fun w' hw' => by rw [hl]; exact hw'.sub (.cons_cons _ (List.nil_sublist _))) (by show n - (i + 1) < n - i; omega)
   ·rw [decide_eq_false hq, if_neg (by decide)] at hl
    rw [decide_eq_false hq]
    refine goA ?_
    refine zay (i + 1) ⟨rfl, rfl, rfl, rfl, rfl, trivial⟩ (show i + 1 ≤ n by omega) (fun w' hw' => by rw [hl]; exact hw'.sub (.cons _ (.cons _ (.refl _)))) (by show n - (i + 1) < n - i; omega)
 ·obtain rfl : i = n := by omega
  refine goA ?_
  exact zdq b rfl rfl rfl rfl trivial (.refl _) (by intro it hm; rcases hm with _ | ⟨_, hm⟩ <;> first | exact za6 _ _ _ _ | exact (nomatch hm))
end Go.Proofs.YtkkfifhaobjicaaGreatDoor
namespace Go.Eng
variable {P : Program} {l : zat} {H : World → Prop} {Q : Exit → Act → World → Prop} {N : Fm}
theorem qmk {n : Nat} {ds : List Deferred} {c : Code} (h : HT P c (Exit.noGoto Q) ⟨n, ds, none⟩ l H) : HT P (.scope c) Q ⟨n, ds, none⟩ l H := by
 unfold HT at *
 exact fun a w s hw => wpIn_wide.2 (wp_scope_straight (wpIn_wide.1 (h a w s hw)))
theorem qkf {i : Nat} (h : HX Q .normal N l H) : HT P (.label i) Q N l H := by
 unfold HT HX at *
 exact fun a w s hw => wpIn_label (h a w s hw)
theorem zyc (h : HX Q .ret N l H) : HX (Exit.noGoto Q) .ret N l H := by
 unfold HX at *
 exact h
end Go.Eng
namespace Go.Proofs.YtkkfifhaobjicaaGreatDoor
open Go.RowKit Go.Eng
set_option maxRecDepth 100000
set_option maxHeartbeats 40000000
abbrev zeg := List (Nat × Sht)
def toN (B : zeg) : zck := B.map fun p => (p.1, .agg (zrq p.2))
theorem zrc (B : zeg) (n : Nat) : (toN B).lookup n = (B.lookup n).map (fun s => Value.agg (zrq s)) := by
 induction B with
 | nil => rfl
 | cons p B ih =>
  obtain ⟨k, s⟩ := p
  show List.lookup n ((k, Value.agg (zrq s)) :: toN B) = _
  rw [List.lookup_cons, List.lookup_cons]
  by_cases h : n = k
  ·subst h; simp
  ·rw [show (n == k) = false from beq_eq_false_iff_ne.2 h]; exact ih
theorem zho {B : zeg} {n : Nat} {s : Sht} (h : B.lookup n = some s) : (n, s) ∈ B := by
 induction B with
 | nil => cases h
 | cons p B ih =>
  obtain ⟨k, t⟩ := p
  rw [List.lookup_cons] at h
  by_cases hk : n = k
  ·subst hk; simp at h; subst h; exact .head _
  ·rw [show (n == k) = false from beq_eq_false_iff_ne.2 hk] at h
   exact .tail _ (ih h)
def zcv (B : zeg) : Nat → Nat → Bys → List Bys → List Bys
 | 0, _, _, acc => acc
 | f + 1, n, cur, acc => match B.lookup n with
  | none => acc
  | some s => if s.last then zcv B f (nxt n) [] (acc ++ [cur ++ s.text]) else zcv B f (nxt n) (cur ++ s.text) acc
def qix (B : zeg) (first k : Nat) : zeg := B.filter fun p => decide (k ≤ (p.1 + 18446744073709551616 - first) % 18446744073709551616)
theorem qo6 {B : zeg} {first k : Nat} {s : Sht} (hf : first < 18446744073709551616) (hk : k < 18446744073709551616) (h : B.lookup ((first + k) % 18446744073709551616) = some s) : (qix B first (k + 1)).length < (qix B first k).length := by
 have hm := zho h
 have e : qix B first (k + 1) = (qix B first k).filter fun p => decide (k + 1 ≤ (p.1 + 18446744073709551616 - first) % 18446744073709551616) := by
  unfold qix
  rw [List.filter_filter]
  refine List.filter_congr fun p _ => ?_
  by_cases h1 : k + 1 ≤ (p.1 + 18446744073709551616 - first) % 18446744073709551616
  ·simp [h1]; omega
  ·simp [h1]
 have ho : ((first + k) % 18446744073709551616 + 18446744073709551616 - first) % 18446744073709551616 = k := by omega
 rw [e]
 refine Nat.lt_of_le_of_ne (List.length_filter_le _ _) (fun hh => ?_)
 have := List.length_filter_eq_length_iff.1 hh ((first + k) % 18446744073709551616, s) (List.mem_filter.2 ⟨hm, by rw [decide_eq_true_eq, ho]; exact Nat.le_refl _⟩)
 rw [decide_eq_true_eq, ho] at this
 omega
structure TxS where
 k : Nat
 n : Nat
 cur : Bys
 acc : List Bys
 p : Option Addr
 ob : Option (Nat × Nat)
 o : Option (Nat × Nat)
def zfw (l : List Bys) : List Value := l.map fun s => .string ⟨s.toArray⟩
theorem zo1 (b : Nat) (B : zeg) (hB : ∀ p ∈ B, p.2.text.length ≤ 497 ∧ p.2.text ≠ []) (hBl : B.length ≤ 4096) (first : Nat) (hf : first < 18446744073709551616) (w : World) (hw : ∀ it ∈ [zd6 .u64 b (toN B)], za2 it w) :
  Ct Tryz.prog 129 #[.map (some b), .int .u64 first] w (zap [zd6 .u64 b (toN B)]) (fun o : Option (Nat × Nat) => slV o (zcv B (B.length + 1) first [] []).length) (fun _ => True) (fun o => [own 9 1 o (zcv B (B.length + 1) first [] []).length (zfw (zcv B (B.length + 1) first [] [])), zd6 .u64 b (toN B)]) := by
 refine zbd [_, _] _ Tryz.func129 rfl rfl hw (.cons (fun _ h => nomatch h) .nil) ?_
 simp only [zaa, Nat.reduceAdd]
 refine goA ?_
 refine qmk ?_
 refine goA ?_
 refine zan rfl rfl fun b6 hb6 => ?_
 refine goA ?_
 refine qkf ?_
 refine goA ?_
 obtain ⟨R, hR⟩ : ∃ R, zcv B (B.length + 1) first [] [] = R := ⟨_, rfl⟩
 rw [hR]
 refine zct (α := TxS) (fun y => [(0, .map (some b)), (5, slV y.o y.acc.length), (6, .pointer (some ⟨b6, 0, none⟩)), (7, .int .u64 y.n)]) (fun y => y.n = (first + y.k) % 18446744073709551616 ∧ y.k + (qix B first y.k).length ≤ B.length ∧ zcv B (B.length + 1 - y.k) y.n y.cur y.acc = R ∧ y.cur.length ≤ 497 * y.k ∧ y.acc.length ≤ y.k ∧ (y.p = none ∨ y.p = some ⟨b6, 0, none⟩))
  (fun y => blS b6 y.p y.ob y.cur ++ [own 9 1 y.o y.acc.length (zfw y.acc), zd6 .u64 b (toN B)]) (fun y => (qix B first y.k).length) ⟨0, first, [], [], none, none, none⟩ ⟨rfl, rfl, rfl, rfl, trivial⟩ ⟨(Nat.mod_eq_of_lt hf).symm, by rw [Nat.zero_add]; exact List.length_filter_le _ _, hR, Nat.zero_le _, Nat.zero_le _, .inl rfl⟩ (fun w' hw' => ?_) fun ⟨k, n, cur, acc, p, ob, o⟩ ⟨h1, h2, h3, h4, h5, h6⟩ => ?_
 ·have g1 := zd5 9 1 hw'
  have g2 := (zd5 5 1 g1).imp (it' := zqi 5 none 0 []) (fun k h => h) (fun h => znx h) (zbf _ _ _ _ _)
  exact g2.pick [2, 0, 1, 3] rfl rfl
 simp only at h1 h2 h3 h4 h5 h6 ⊢
 have hn : n < 18446744073709551616 := by rw [h1]; exact Nat.mod_lt _ (by decide)
 have hfu : B.length + 1 - k = (B.length - k) + 1 := by omega
 rw [hfu, zcv] at h3
 refine goA ?_
 refine l_w rfl (qfb (q := .u64) (h := n) rfl rfl rfl rfl rfl (okU hn) (.tail _ (.tail _ (.tail _ (.head _))))) ?_
 rw [zrc]
 cases hlk : B.lookup n with
 | none =>
  rw [hlk] at h3
  simp only [Option.map_none, Option.getD_none, Option.isSome_none] at h3 ⊢
  subst h3
  refine goA ?_
  refine zan rfl rfl fun b8 hb8 => ?_
  refine za0 rfl (zai (cs' := #[.int .u64 0, .bool false, .string ⟨#[]⟩]) rfl rfl rfl rfl rfl rfl) fun _ => ?_
  refine goA ?_
  refine zyc ?_
  exact zbw o rfl rfl rfl trivial (.cons _ (.cons _ (.cons _ (.refl _)))) (by intro it hm; rcases hm with _ | ⟨_, _ | ⟨_, hm⟩⟩ <;> first | exact zab _ _ _ _ _ _ | exact za6 _ _ _ _ | exact (nomatch hm))
 | some s =>
  rw [hlk] at h3
  simp only [Option.map_some, Option.getD_some, Option.isSome_some] at h3 ⊢
  obtain ⟨hs1, hs2⟩ : s.text.length ≤ 497 ∧ s.text ≠ [] := hB _ (zho hlk)
  refine goA ?_
  refine zan rfl rfl fun b8 hb8 => ?_
  refine za0 rfl (zai (cs' := zrq s) rfl rfl rfl rfl rfl rfl) fun _ => ?_
  refine goA ?_
  refine za1 [1, 2, 3, 4, 0] rfl rfl ?_
  refine zae rfl (zba (pre := blS b6 p ob cur) rfl (by kernel_rfl) rfl (by simp [zac, zbf]) (fun w1 hw1 hh1 ha1 => zii b6 p h6 ob cur s.text (by omega) w1 hh1 ha1)) fun ⟨ob2, _⟩ => ?_
  dsimp only
  have hk64 : k < 18446744073709551616 := by omega
  have hlt := qo6 hf hk64 (by rw [← h1]; exact hlk)
  have hnx : nxt n = (first + (k + 1)) % 18446744073709551616 := by rw [nxt, h1]; omega
  have hnl : nxt n < 18446744073709551616 := Nat.mod_lt _ (by decide)
  have hfu2 : B.length + 1 - (k + 1) = B.length - k := by omega
  have hnd : (n + 1) % 18446744073709551616 = nxt n := rfl
  have hcl : (cur ++ s.text).length ≤ 497 * (k + 1) := by rw [List.length_append]; omega
  have hne : cur ++ s.text ≠ [] := fun h => hs2 (List.append_eq_nil_iff.1 h).2
  generalize cur ++ s.text = C at h3 hcl hne ⊢
  rw [← hfu2] at h3
  refine goA ?_
  cases hls : s.last with
  | false =>
   rw [hls, if_neg (by decide)] at h3
   refine goA ?_
   refine l_w rfl (zj8 (a := n) (b := 1) rfl rfl) ?_
   rw [hnd]
   generalize nxt n = z at h3 hnx hnl
   refine goA ?_
   exact zay ⟨k + 1, z, C, acc, some ⟨b6, 0, none⟩, ob2, o⟩ ⟨rfl, rfl, rfl, rfl, trivial⟩ ⟨hnx, by show k + 1 + (qix B first (k + 1)).length ≤ B.length; omega, h3, hcl, Nat.le_succ_of_le h5, .inr rfl⟩ (fun w' hw' => hw'.sub (.cons_cons _ (.cons_cons _ (.cons_cons _ (.cons_cons _ (List.nil_sublist _)))))) hlt
  | true =>
   rw [hls, if_pos rfl] at h3
   refine goA ?_
   refine zae rfl (zba (pre := blS b6 (some ⟨b6, 0, none⟩) ob2 C) rfl (by kernel_rfl) rfl (by simp [zac, zbf]) (fun w1 hw1 hh1 ha1 => zh0 b6 _ ob2 C hne w1 hh1 ha1)) fun ⟨_, _⟩ => ?_
   refine goA ?_
   refine za0 rfl (zbc rfl rfl rfl rfl rfl rfl) fun ⟨bq, hbq⟩ => ?_
   refine goA ?_
   refine za0 rfl (zak (zdl _ _ _ _ _) (zdj (news := [.string ⟨C.toArray⟩]) rfl rfl rfl rfl rfl rfl rfl rfl (by omega) (fun w' hw' j v hj => by rw [zc8, Nat.zero_add]; exact zbo (hw'.item _ (.tail _ (.head _))).1 j v hj))) fun o' => ?_
   have hal : (acc ++ [C]).length = acc.length + 1 := by simp
   have hsv : zfw (acc ++ [C]) = zfw acc ++ [.string ⟨C.toArray⟩] := by simp [zfw]
   rw [← hal, ← hsv]
   refine goA ?_
   refine za1 [2, 3, 0, 4] rfl rfl ?_
   refine zae rfl (zba (pre := blS b6 (some ⟨b6, 0, none⟩) ob2 C) rfl (by kernel_rfl) rfl (by simp [zac, zbf]) (fun w1 hw1 hh1 ha1 => zup b6 _ ob2 C w1 hh1 ha1)) fun ⟨_, _⟩ => ?_
   refine goA ?_
   refine l_w rfl (zj8 (a := n) (b := 1) rfl rfl) ?_
   rw [hnd]
   generalize nxt n = z at h3 hnx hnl
   have hal2 : (acc ++ [C]).length ≤ k + 1 := by omega
   generalize acc ++ [C] = E at h3 hal2
   refine goA ?_
   exact zay ⟨k + 1, z, [], E, none, none, o'⟩ ⟨rfl, rfl, rfl, rfl, trivial⟩ ⟨hnx, by show k + 1 + (qix B first (k + 1)).length ≤ B.length; omega, h3, Nat.zero_le _, hal2, .inl rfl⟩ (fun w' hw' => hw') hlt
theorem qk4 (D : Dsk) : (zdb D 2).2 = -1 ∨ (zdb D 2).2 = 0 ∨ (zdb D 2).2 = 1 := by
 have h1 : (zdb D 1).2 = -1 ∨ (zdb D 1).2 = 0 := by
  have e : zdb D 1 = zie (zch D 0) 0 (zyl, -1) := rfl
  rw [e]
  unfold zie
  split
  ·exact .inr rfl
  ·exact .inl rfl
 show (zie _ 1 (zdb D 1)).2 = _ ∨ (zie _ 1 (zdb D 1)).2 = _ ∨ (zie _ 1 (zdb D 1)).2 = _
 unfold zie
 split
 ·exact .inr (.inr rfl)
 ·rcases h1 with h | h
  ·exact .inl h
  ·exact .inr (.inl h)
theorem zy8 {L : zck} {v : Nat} (hv : v < 18446744073709551616) : ze4 L v < 18446744073709551616 := by
 have := (zhx L v 18446744073709551615).2 ⟨by omega, fun p _ => by have : nxt p.1 < 18446744073709551616 := Nat.mod_lt _ (by decide); omega⟩
 omega
theorem zpt {A : zck} {h : Nat} {v : Value} (hA : ∀ p ∈ A, p.1 < 18446744073709551616) (hh : h < 18446744073709551616) : ∀ p ∈ zss A h v, p.1 < 18446744073709551616 := by
 intro p hp
 unfold zss at hp
 split at hp
 ·obtain ⟨q, hq, rfl⟩ := List.mem_map.1 hp
  split
  ·exact hh
  ·exact hA q hq
 ·rcases List.mem_append.1 hp with hp | hp
  ·exact hA p hp
  ·rw [List.mem_singleton] at hp; subst hp; exact hh
theorem zrk (D : Dsk) (n i : Nat) : ∀ p ∈ zgl D n i, p.1 < 18446744073709551616 := by
 induction i with
 | zero => exact fun _ h => nomatch h
 | succ i ih =>
  show ∀ p ∈ qbe _ n i _, _
  unfold qbe
  split
  ·exact zpt ih (zzw _)
  ·exact ih
def qb9 (D : Dsk) (n : Nat) (note : Bys) : Hd := ⟨((zdb D 2).1.gen + 1) % 18446744073709551616, ze4 (zgl D n n) 1, n, note⟩
theorem zb4 (d : Dk) : ∀ it ∈ [dkI d, ctI], it.Stable none' := by
 intro it hm
 rcases hm with _ | ⟨_, _ | ⟨_, hm⟩⟩
 ·exact zad _
 ·exact zcz _
 ·exact nomatch hm
theorem zuo (d : Dk) (ok : d.D.Ok) (hlive : d.D.dead = false) (hkl : d.D.keep.length ≤ 1000000) (hwl : d.D.wait.length ≤ 1000000) (n : Nat) (hn0 : 96 ≤ n) (hn1 : n ≤ 512) (hn : 2 + n ≤ d.D.on.length) (note : Bys) (hno : note.length ≤ 64) (w : World) (hw : ∀ it ∈ [dkI d, ctI], za2 it w) (ha : [dkI d, ctI].Pairwise Eng.Item.Apart) :
  Ct Tryz.prog 83 #[.pointer (some ⟨d.b, 0, none⟩), .int .i64 n, .string ⟨note.toArray⟩] w (zap [dkI d, ctI]) (fun _ : Dk => .int .i64 ((zbx d.D (za3 (zdb d.D 2).2) (qb9 d.D n note)).1 : Nat)) (zjq d (zbx d.D (za3 (zdb d.D 2).2) (qb9 d.D n note)).2) (fun d' => [dkI d', ctI]) := by
 refine zbd [_, _, _] _ Tryz.func83 rfl rfl hw ha ?_
 have hmany := ok.many
 have hnl := bal note
 simp only [zaa, Nat.reduceAdd]
 refine goA ?_
 refine zae rfl (zag rfl (by kernel_rfl) rfl (fun w1 hw1 => zha d w1 (za2.of (hw1.item _ (.head _)) (zad _)))) fun _ => ?_
 refine goA ?_
 rw [hnl]
 refine goA ?_
 refine zae rfl (zba (pre := [dkI d, ctI]) rfl (by kernel_rfl) rfl (zb4 d) (fun w1 hw1 hh1 ha1 => zm2 d ok hlive (by omega) (by omega) w1 hh1 ha1)) fun ⟨_, _⟩ => ?_
 have hl2 := qk4 d.D
 have hq : qb9 d.D n note = ⟨((zdb d.D 2).1.gen + 1) % 18446744073709551616, ze4 (zgl d.D n n) 1, n, note⟩ := rfl
 rw [hq]
 generalize zdb d.D 2 = q at hl2 ⊢
 refine goA ?_
 refine zan rfl rfl fun b7 hb7 => ?_
 refine za0 rfl (zai (cs' := hdA q.1) rfl rfl rfl rfl rfl rfl) fun _ => ?_
 refine goA ?_
 refine ze5 rfl rfl (by kernel_rfl) rfl (fun w1 hw1 => zof d ok hlive (by omega) n (by omega) (by omega) w1 (za2.of (hw1.item (dkI d) (.tail _ (.head _))) (zad _)) (hw1.item ctI (.tail _ (.tail _ (.head _)))).1) fun x hx => ?_
 refine goA ?_
 refine zde [2, 3, 0, 1] rfl rfl ?_
 have hrk := zrk d.D n n
 generalize zgl d.D n n = A at hrk ⊢
 refine zaq [3] 13 rfl rfl (by kernel_rfl) ?_
 (repeat first | refine dAv [2, 5] rfl rfl rfl ?_ | refine dno [2, 5] rfl rfl rfl ?_ | refine dT [2, 5] rfl rfl rfl rfl ?_ | refine dF [2, 5] rfl rfl rfl rfl ?_)
 refine d_v [2] rfl rfl (by kernel_rfl) (fun _ h => goH h) rfl rfl (zj8 (a := q.1.gen) (b := 1) rfl rfl) ?_
 (repeat first | refine dAv [2] rfl rfl rfl ?_ | refine dno [2] rfl rfl rfl ?_ | refine dT [2] rfl rfl rfl rfl ?_ | refine dF [2] rfl rfl rfl rfl ?_)
 refine zau 2 ⟨by kernel_rfl, by decide⟩ rfl rfl (zag rfl (by kernel_rfl) rfl (fun w1 hw1 => zjy q.2 hl2 w1)) (fun _ _ h => goH h) fun _ => ?_
 refine goE ?_
 refine zau 7 ⟨by kernel_rfl, by decide⟩ rfl rfl (zak (zc9 _ _ _ _) (zba (pre := [zd6 .u64 x A]) rfl (by kernel_rfl) rfl (by intro it hm; rcases hm with _ | ⟨_, hm⟩ <;> first | exact za6 _ _ _ _ | exact (nomatch hm)) (fun w1 hw1 hh1 ha1 => zrh x A hrk 1 (by decide) w1 hh1))) (fun _ _ h => goH h) fun ⟨_, _⟩ => ?_
 have hnn := zy8 (L := A) (v := 1) (by decide)
 generalize ze4 A 1 = f at hnn ⊢
 refine goE ?_
 have hg : (q.1.gen + 1) % 18446744073709551616 < 18446744073709551616 := Nat.mod_lt _ (by decide)
 generalize (q.1.gen + 1) % 18446744073709551616 = g at hg ⊢
 refine zyg 61 _ (.agg (hdA ⟨g, f, n, note⟩)) rfl rfl ?_
 have hof : za3 q.2 < 9223372036854775808 := by unfold za3; split <;> decide
 generalize za3 q.2 = at_ at hof ⊢
 refine zau 11 ⟨by kernel_rfl, by decide⟩ rfl rfl (zak (List.perm_middle (a := zd6 .u64 x A) (l₁ := [dkI d, ctI]) (l₂ := [pt b7 (.cells (hdA q.1) 195 (0, 0))])).symm (zba (pre := [dkI d, ctI]) rfl (by kernel_rfl) rfl (zb4 d) (fun w1 hw1 hh1 ha1 => zo4 d ok hkl hwl at_ hof ⟨g, f, n, note⟩ ⟨hg, hnn, by show n < 65536; omega, hno⟩ w1 hh1 ha1))) (fun _ _ h => goH h) fun ⟨d', hd'⟩ => ?_
 refine goE ?_
 refine zbs (by kernel_rfl) ?_
 refine goA ?_
 exact zbw d' rfl rfl rfl hd' (.cons_cons _ (.cons_cons _ (List.nil_sublist _))) (zb4 d')
end Go.Proofs.YtkkfifhaobjicaaGreatDoor
namespace Go.Proofs.YtkkfifhaobjicaaGreatDoor
open Go.RowKit Go.Eng
set_option maxRecDepth 100000
def qcu (B : zeg) (h : Nat) (s : Sht) : zeg := if (B.lookup h).isSome then B.map (fun p => if p.1 = h then (h, s) else p) else B ++ [(h, s)]
theorem qmc (B : zeg) (h : Nat) (s : Sht) : toN (qcu B h s) = zss (toN B) h (.agg (zrq s)) := by
 unfold qcu zss
 rw [zrc, Option.isSome_map]
 split
 ·unfold toN
  rw [List.map_map, List.map_map]
  refine List.map_congr_left fun p _ => ?_
  show (_, _) = _
  by_cases hp : p.1 = h
  ·simp [hp]
  ·simp [hp]
 ·unfold toN
  rw [List.map_append]; rfl
def zbj (D : Dsk) (n : Nat) : Nat → zeg
 | 0 => []
 | i + 1 => if zid (zch D (2 + i)) && decide (zbh (zf6 (zch D (2 + i))).seq n = 2 + i) then qcu (zbj D n i) (zf6 (zch D (2 + i))).seq (zf6 (zch D (2 + i))) else zbj D n i
theorem zny (D : Dsk) (n i : Nat) : toN (zbj D n i) = zgl D n i := by
 induction i with
 | zero => rfl
 | succ i ih =>
  rw [zbj, zgl, qbe]
  split
  ·rw [qmc, ih]
  ·exact ih
theorem qhv (B : zeg) (h : Nat) (s : Sht) : (qcu B h s).length ≤ B.length + 1 := by
 unfold qcu
 split
 ·rw [List.length_map]; omega
 ·rw [List.length_append]; exact Nat.le_refl _
theorem qa0 (D : Dsk) (n i : Nat) : (zbj D n i).length ≤ i := by
 induction i with
 | zero => exact Nat.le_refl _
 | succ i ih =>
  rw [zbj]
  split
  ·have := qhv (zbj D n i) (zf6 (zch D (2 + i))).seq (zf6 (zch D (2 + i)))
   omega
  ·omega
theorem qh8 {Φ : Sht → Prop} {B : zeg} {h : Nat} {s : Sht} (hB : ∀ p ∈ B, Φ p.2) (hs : Φ s) : ∀ p ∈ qcu B h s, Φ p.2 := by
 intro p hp
 unfold qcu at hp
 split at hp
 ·obtain ⟨q, hq, rfl⟩ := List.mem_map.1 hp
  split
  ·exact hs
  ·exact hB q hq
 ·rcases List.mem_append.1 hp with hp | hp
  ·exact hB p hp
  ·rw [List.mem_singleton] at hp; subst hp; exact hs
structure Lg where
 h : Hd
 at_ : Nat
 next : Nat
 used : Nat
 dead : Bool
abbrev lgA (d : Dk) (g : Lg) : Array Value := #[.pointer (some ⟨d.b, 0, none⟩), .int .u64 (g.h.gen : Int), .int .u64 (g.h.first : Int), .int .i64 (g.h.secs : Int), .string ⟨g.h.note.toArray⟩, .int .i64 (g.at_ : Int), .int .u64 (g.next : Int), .int .i64 (g.used : Int), .bool g.dead]
abbrev lgI (b : Nat) (d : Dk) (g : Lg) : Eng.Item := pt b (.cells (lgA d g) 205 (0, 0))
end Go.Proofs.YtkkfifhaobjicaaGreatDoor
namespace Go.Proofs.YtkkfifhaobjicaaGreatDoor
open Go.RowKit Go.Eng
set_option maxRecDepth 100000
set_option maxHeartbeats 40000000
theorem qo0 {b : Nat} {d : Dk} {g : Lg} {w : World} (h : za2 (lgI b d g) w) (i : Nat) {v : Value} (hv : (lgA d g)[i]? = some v) : w.cell? ⟨b, i, none⟩ = some v := by
 rw [cell_of_row w b i _ _ _ h.1]; exact hv
theorem zgp (b : Nat) (d : Dk) (g : Lg) (w : World) (h : za2 (lgI b d g) w) : Pu Tryz.prog 99 #[.pointer (some ⟨b, 0, none⟩)] w (.int .i64 g.h.secs) := by
 refine zbl [_] Tryz.func99 rfl rfl ?_
 simp only [zaa]
 refine goA ?_
 refine l_w rfl (zaz rfl rfl (fun w' hw' => qo0 (h.keep hw') 3 rfl)) ?_
 refine goA ?_
 exact zc2 rfl rfl rfl
theorem zvo (b : Nat) (d : Dk) (g : Lg) (w : World) (h : za2 (lgI b d g) w) : Pu Tryz.prog 86 #[.pointer (some ⟨b, 0, none⟩)] w (.string ⟨g.h.note.toArray⟩) := by
 refine zbl [_] Tryz.func86 rfl rfl ?_
 simp only [zaa]
 refine goA ?_
 refine l_w rfl (zaz rfl rfl (fun w' hw' => qo0 (h.keep hw') 4 rfl)) ?_
 refine goA ?_
 exact zc2 rfl rfl rfl
end Go.Proofs.YtkkfifhaobjicaaGreatDoor
