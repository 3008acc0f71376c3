/- law 10: Shape, Text, Great. Own work; no condition. -/
/- law 10: a tree beside a map: what acts make of both, plain. Own work; no condition. -/
/- law 10: Begins, Does. Own work; no condition. -/
/- law 10: Does. Own work; no condition. -/
/- law 10: Same, wakes. Own work; no condition. -/
import Derived.Test.YtkkfifhaobjicaaGreatDoorHb47
import Derived.Test.YtkkfifhaobjicaaGreatDoorHb39
namespace Go.Eng
open Go.RowKit
theorem qmi {P : Program} {l : zat} {H : World → Prop} {x y : Operand} {T U ty : TypeId} {a b : Nat} (hx : evO l x = some (.int .u8 (a : Int))) (hy : evO l y = some (.int .u8 (b : Int))) : OV P (.binOp .add T x y U) ty l H (.int .u8 (((a + b) % 256 : Nat) : Int)) :=
 zuw (zf1 hx hy fun _ => rfl) (by rw [← Int.natCast_add, zh4])
end Go.Eng
namespace Go.Proofs.YtkkfifhaobjicaaGreatDoor
open Go.RowKit Go.Eng Go.Eng.Bm Go.Eng.Tr
set_option maxRecDepth 100000
set_option maxHeartbeats 40000000
def qom : List Sh := [⟨33, 4⟩, ⟨32, 6⟩, ⟨64, 64⟩, ⟨2, 5⟩, ⟨17, 33⟩]
def za5 (n : Nat) : Sh := qom.getD (n % 5) ⟨33, 4⟩
theorem zfa (n : Nat) : (n % 5 = 0 ∧ za5 n = ⟨33, 4⟩) ∨ (n % 5 = 1 ∧ za5 n = ⟨32, 6⟩) ∨ (n % 5 = 2 ∧ za5 n = ⟨64, 64⟩) ∨ (n % 5 = 3 ∧ za5 n = ⟨2, 5⟩) ∨ (n % 5 = 4 ∧ za5 n = ⟨17, 33⟩) := by
 have h : n % 5 < 5 := Nat.mod_lt _ (by decide)
 unfold za5
 generalize n % 5 = r at h ⊢
 rcases r with _ | _ | _ | _ | _ | r
 ·exact .inl ⟨rfl, rfl⟩
 ·exact .inr (.inl ⟨rfl, rfl⟩)
 ·exact .inr (.inr (.inl ⟨rfl, rfl⟩))
 ·exact .inr (.inr (.inr (.inl ⟨rfl, rfl⟩)))
 ·exact .inr (.inr (.inr (.inr ⟨rfl, rfl⟩)))
 ·omega
def bsN (f : Nat → Nat) (w : Nat) : List Value := (List.range w).map fun j => .int .u8 ((f j : Nat) : Int)
theorem zxc (f : Nat → Nat) (w i v : Nat) : (bsN f w).set i (.int .u8 (v : Int)) = bsN (fun j => if j = i then v else f j) w := by
 refine List.ext_getElem (by simp [bsN]) fun j h1 h2 => ?_
 rw [List.getElem_set]
 simp only [bsN, List.getElem_map, List.getElem_range]
 by_cases e : i = j
 ·rw [if_pos e, if_pos e.symm]
 ·rw [if_neg e, if_neg (Ne.symm e)]
theorem zxy (f : Nat → Nat) (w : Nat) : (bsN f w).length = w := by simp [bsN]
def txN (n j : Nat) : Nat := (n % 256 + 7 * j % 256) % 256
def txF (n : Nat) : Nat → Nat := fun j => if j = 1 then n % 256 else if j = 0 then n / 256 % 256 else txN n j
def zik (n w : Nat) : K := (List.range w).map fun j => UInt8.ofNat (txF n j)
theorem zpz (n w : Nat) : (zik n w).length = w := by simp [zik]
theorem qfy (n w : Nat) : bsN (txF n) w = zaf (zik n w) := by
 unfold bsN zik zaf
 rw [List.map_map]
 refine List.map_congr_left fun j _ => ?_
 have : txF n j < 256 := by unfold txF txN; split; omega; split <;> omega
 show Value.int .u8 _ = .int .u8 _
 congr 1
 rw [UInt8.toNat_ofNat', Nat.mod_eq_of_lt (by omega)]
theorem zok (n wide : Nat) (hn : n < 65536) (h1 : 2 ≤ wide) (h2 : wide ≤ 1000) (w : World) : Pu Tryz.prog 23 #[.int .u16 n, .int .i64 wide] w (kV (zik n wide)) := by
 refine zbl [_, _] Tryz.func23 rfl rfl ?_
 simp only [zaa, Nat.reduceAdd]
 refine goA ?_
 refine za0 rfl (zwt rfl rfl rfl rfl rfl (by omega)) fun ⟨b1, hb1⟩ => ?_
 refine goA ?_
 refine zct (α := Nat) (fun i => [(0, .int .u16 (n : Int)), (1, .int .i64 (wide : Int)), (5, .slice (some ⟨b1, 0, none⟩) wide wide), (6, .int .i64 (i : Nat))]) (fun i => i ≤ wide) (fun i => [pt b1 (.cells (bsN (fun j => if j < i then txN n j else 0) wide).toArray 5 (0, 0))]) (fun i => wide - i) 0 ⟨rfl, rfl, rfl, rfl, trivial⟩ (Nat.zero_le _) (fun w' hw' => by
   have e : zcu (.int .u8 0) (wide * 1) = bsN (fun j => if j < 0 then txN n j else 0) wide := by
    rw [zcu, Nat.mul_one]
    exact List.map_congr_left fun j _ => by rw [show (Value.int IntKind.u8 0).cells.size = 1 from rfl, Nat.mod_one]; rfl
   rw [← e]; exact hw') fun i hi => ?_
 by_cases hlt : i < wide
 ·refine goA ?_
  refine l_w rfl (qjb rfl rfl rfl) ?_
  refine goA ?_
  refine l_w rfl (qjb rfl rfl rfl) ?_
  refine goA ?_
  refine l_w rfl (qmi rfl rfl) ?_
  refine goA ?_
  refine za0 rfl (zaj rfl rfl rfl rfl rfl rfl (by rw [List.size_toArray, zxy]; omega)) fun _ => ?_
  rw [Nat.zero_add, List.setIfInBounds_toArray, zxc]
  refine goA ?_
  exact zay (i + 1) ⟨rfl, rfl, rfl, rfl, trivial⟩ hlt (fun w' hw' => by
   have e : (fun j => if j = i then (n % 256 + 7 * i % 256) % 256 else if j < i then txN n j else 0) = fun j => if j < i + 1 then txN n j else 0 := by
    funext j
    by_cases h3 : j = i
    ·subst h3; rw [if_pos rfl, if_pos (by omega)]; rfl
    ·rw [if_neg h3]
     by_cases h4 : j < i
     ·rw [if_pos h4, if_pos (by omega)]
     ·rw [if_neg h4, if_neg (by omega)]
   rw [← e]; exact hw') (by omega)
 ·obtain rfl : i = wide := by omega
  refine goA ?_
  refine za0 rfl (zaj rfl rfl rfl rfl rfl rfl (by rw [List.size_toArray, zxy]; omega)) fun _ => ?_
  rw [Nat.zero_add, List.setIfInBounds_toArray, zxc]
  refine goA ?_
  refine l_w rfl (qjb rfl rfl rfl) ?_
  refine goA ?_
  refine za0 rfl (zaj rfl rfl rfl rfl rfl rfl (by rw [List.size_toArray, zxy]; omega)) fun _ => ?_
  rw [Nat.zero_add, List.setIfInBounds_toArray, zxc]
  have e : bsN (fun j => if j = 1 then n % 256 else if j = 0 then n / 2 ^ 8 else if j < i then txN n j else 0) i = zaf (zik n i) := by
   rw [← qfy]
   refine List.map_congr_left fun j hj => ?_
   have := List.mem_range.1 hj
   show Value.int .u8 ((if j = 1 then n % 256 else if j = 0 then n / 2 ^ 8 else if j < i then txN n j else 0 : Nat) : Int) = .int .u8 ((if j = 1 then n % 256 else if j = 0 then n / 256 % 256 else txN n j : Nat) : Int)
   rw [if_pos this, show n / 2 ^ 8 = n / 256 from rfl, Nat.mod_eq_of_lt (show n / 256 < 256 by omega)]
  rw [e]
  refine goA ?_
  refine l_w rfl (zrz (bs := zik n i) rfl (zpz n i).symm rfl rfl (fun w' hw' => .inr ⟨b1, 0, rfl, za7 (hw'.get (b := b1) (.head _))⟩)) ?_
  refine goA ?_
  exact zc2 rfl rfl rfl
def qol : List Value := [.int .i64 33, .int .i64 4, .int .i64 32, .int .i64 6, .int .i64 64, .int .i64 64, .int .i64 2, .int .i64 5, .int .i64 17, .int .i64 33]
theorem qih (n j : Nat) (v : Value) (h : ([.int .i64 ((za5 n).kw : Int), .int .i64 ((za5 n).vw : Int)] : List Value)[j]? = some v) : qol[n % 5 * 2 + j]? = some v := by
 match j, h with
 | 0, h => rcases zfa n with ⟨e1, e2⟩ | ⟨e1, e2⟩ | ⟨e1, e2⟩ | ⟨e1, e2⟩ | ⟨e1, e2⟩ <;> (rw [e2] at h; rw [e1]; exact h)
 | 1, h => rcases zfa n with ⟨e1, e2⟩ | ⟨e1, e2⟩ | ⟨e1, e2⟩ | ⟨e1, e2⟩ | ⟨e1, e2⟩ <;> (rw [e2] at h; rw [e1]; exact h)
 | _ + 2, h => simp at h
theorem zod (n : Nat) (hn : n < 256) (w : World) : Pu Tryz.prog 21 #[.int .u8 n] w (shV (za5 n)) := by
 refine zbl [_] Tryz.func21 rfl rfl ?_
 simp only [zaa]
 refine goA ?_
 refine zan rfl rfl fun b2 hb2 => ?_
 refine goA ?_
 refine zdc 4 _ (.agg #[.int .i64 33, .int .i64 4]) rfl rfl ?_
 refine zdc 5 _ (.agg #[.int .i64 32, .int .i64 6]) rfl rfl ?_
 refine zdc 6 _ (.agg #[.int .i64 64, .int .i64 64]) rfl rfl ?_
 refine zdc 7 _ (.agg #[.int .i64 2, .int .i64 5]) rfl rfl ?_
 refine zdc 8 _ (.agg #[.int .i64 17, .int .i64 33]) rfl rfl ?_
 refine za0 rfl (zbc (L := [(0, 2, .agg #[.int .i64 33, .int .i64 4]), (2, 2, .agg #[.int .i64 32, .int .i64 6]), (4, 2, .agg #[.int .i64 64, .int .i64 64]), (6, 2, .agg #[.int .i64 2, .int .i64 5]), (8, 2, .agg #[.int .i64 17, .int .i64 33])]) rfl rfl rfl rfl rfl rfl) fun ⟨bq, hbq⟩ => ?_
 refine goA ?_
 rw [show zei (zcu (.agg #[.int .i64 0, .int .i64 0]) (5 * 2)) [(0, 2, .agg #[.int .i64 33, .int .i64 4]), (2, 2, .agg #[.int .i64 32, .int .i64 6]), (4, 2, .agg #[.int .i64 64, .int .i64 64]), (6, 2, .agg #[.int .i64 2, .int .i64 5]), (8, 2, .agg #[.int .i64 17, .int .i64 33])] = qol from rfl]
 refine l_w rfl (zfi (xs := [.int .i64 ((za5 n).kw : Int), .int .i64 ((za5 n).vw : Int)]) rfl rfl (fun w' hw' j v hv => zbo (hw'.item _ (.head _)).1 _ v (by rw [Nat.zero_add]; exact qih n j v hv)) rfl) ?_
 refine goA ?_
 refine za0 rfl (zak (zci _ _ _) (zai (cs' := #[.int .i64 ((za5 n).kw : Int), .int .i64 ((za5 n).vw : Int)]) rfl rfl rfl rfl rfl rfl)) fun _ => ?_
 refine goA ?_
 exact zc2 rfl ⟨_, rfl, zas rfl mm⟩ rfl
theorem qal (n : Nat) : ShB (za5 n) := by
 rcases zfa n with ⟨-, e⟩ | ⟨-, e⟩ | ⟨-, e⟩ | ⟨-, e⟩ | ⟨-, e⟩ <;> (rw [e]; exact ⟨by decide, by decide, by decide⟩)
theorem zew (n : Nat) : zua (za5 n) := by
 rcases zfa n with ⟨-, e⟩ | ⟨-, e⟩ | ⟨-, e⟩ | ⟨-, e⟩ | ⟨-, e⟩ <;> (rw [e]; constructor <;> decide)
theorem zw8 (n : Nat) (hn : n < 256) (a : Option Addr) (k c : Nat) (w : World) : Pu Tryz.prog 6 #[.int .u8 n, .slice a k c] w (.bool (decide (400 < k) || (decide (60 < k) && decide ((za5 n).cap < 6)))) := by
 refine zbl [_, _] Tryz.func6 rfl rfl ?_
 simp only [zaa, Nat.reduceAdd]
 by_cases h4 : 400 < k
 ·refine goA ?_
  exact zc2 rfl rfl (by rw [decide_eq_true h4, Bool.true_or])
 ·by_cases h6 : 60 < k
  ·refine goA ?_
   refine zae rfl (zag rfl (by kernel_rfl) rfl (fun w1 hw1 => zod n hn w1)) fun _ => ?_
   refine goA ?_
   refine zae rfl (zag rfl (by kernel_rfl) rfl (fun w1 hw1 => zhf (qal n) w1)) fun _ => ?_
   refine goA ?_
   exact zc2 rfl rfl (by rw [decide_eq_false h4, Bool.false_or, decide_eq_true h6, Bool.true_and]; exact congrArg Value.bool (by rw [Bool.eq_iff_iff, decide_eq_true_iff, decide_eq_true_iff]; omega))
  ·refine goA ?_
   exact zc2 rfl rfl (by rw [decide_eq_false h4, Bool.false_or, decide_eq_false h6, Bool.false_and])
end Go.Proofs.YtkkfifhaobjicaaGreatDoor
namespace Go.Eng.Tr
theorem qot (s : Sh) (h4 : 4 ≤ s.fan / 2) (h0 : 1 ≤ s.cap / 2) : ∀ {h : Nat} (t : T h), Below s t → (1 ≤ h → 2 ≤ sz t) → 2 ^ h ≤ lv t
 | 0, _, _, _ => Nat.le_refl _
 | h + 1, (p, ks, kids), hB, hz => by
  have hB : ∀ x ∈ kids, mx s h / 2 ≤ sz x ∧ sz x ≤ mx s h ∧ Below s x := hB
  have hz : 2 ≤ kids.length := hz (Nat.succ_pos _)
  show 2 ^ (h + 1) ≤ (kids.map lv).sum
  have := zp5 kids (fun _ => 0) lv (2 ^ h) fun x hx => by
   have := qot s h4 h0 x (hB x hx).2.2 (fun h1 => by
    have := (hB x hx).1
    cases h with
    | zero => omega
    | succ h => have e : mx s (h + 1) = s.fan := rfl; omega)
   omega
  have h5 : 2 ^ h * 2 ≤ 2 ^ h * kids.length := Nat.mul_le_mul_left _ hz
  rw [Nat.pow_succ]
  omega
end Go.Eng.Tr
namespace Go.Proofs.YtkkfifhaobjicaaGreatDoor
open Go.RowKit Go.Eng Go.Eng.Bm Go.Eng.Tr
set_option maxRecDepth 100000
theorem qd8 (n : Nat) : ((za5 n).cap / 2 = 6 ∨ (za5 n).cap / 2 = 36 ∨ (za5 n).cap / 2 = 5) ∨ ((za5 n).cap < 6 ∧ (za5 n).cap / 2 = 1) := by
 rcases zfa n with ⟨-, e⟩ | ⟨-, e⟩ | ⟨-, e⟩ | ⟨-, e⟩ | ⟨-, e⟩ <;> (rw [e]; decide)
theorem qfa {n k : Nat} (hl : k ≤ 400) (h6 : (za5 n).cap < 6 → k ≤ 60) (r : Rt) (hr : qcn (za5 n) r) (he : (zbr r).length ≤ k) : (zm4 r).length + zgr r + 3 < 128 ∧ zgr r < 16 := by
 match r, hr, he with
 | none, _, _ => exact ⟨by decide, by decide⟩
 | some ⟨h, t⟩, hr, he =>
  have hr : TOk (za5 n) t := hr
  have he : (ents t).length ≤ k := he
  have hs := zew n
  have f1 := zz1 (za5 n) hs.h4 t hr.below hr.two
  show (pgs t).length + h + 3 < 128 ∧ h < 16
  cases h with
  | zero =>
   obtain ⟨p, es⟩ := t
   exact ⟨by show 1 + 0 + 3 < 128; decide, by decide⟩
  | succ h =>
   have f3 := zpy (za5 n) t hr.below (fun h => by omega)
   have f2 := qot (za5 n) hs.h4 (by have := hs.cap; omega) t hr.below hr.two
   have hlv : lv t ≤ 80 := by
    rcases qd8 n with (e | e | e) | ⟨e1, e⟩
    ·rw [e] at f3; omega
    ·rw [e] at f3; omega
    ·rw [e] at f3; omega
    ·have := h6 e1; rw [e] at f3; omega
   have hh : h + 1 ≤ 6 := by
    refine Classical.byContradiction fun hn => ?_
    have := Nat.pow_le_pow_right (n := 2) (by decide) (show 7 ≤ h + 1 by omega)
    omega
   exact ⟨by omega, by omega⟩
structure zmm (c : Tc) (n : Nat) (r : Rt) (g : Sg) (s : Pg) : Prop where
 tok : Tok c g s
 rt : qcn (za5 n) r
 rep : qir g.W r
 acc : Acc 128 g.S (zm4 r)
 es : Es (zbr r)
 cN : c.N = 128
 sh : c.sh = za5 n
theorem zmm.store {c : Tc} {n : Nat} {r : Rt} {g : Sg} {s s' : Pg} (h : zmm c n r g s) (h' : Tok c g s') : zmm c n r g s' := ⟨h', h.rt, h.rep, h.acc, h.es, h.cN, h.sh⟩
theorem zhu : ∀ {e : E} {k v : K}, (zfl e k v).length ≤ e.length + 1
 | [], _, _ => Nat.le_refl _
 | p :: r, k, v => by
  show (if k = p.1 then (k, v) :: r else if kl k p.1 then (k, v) :: p :: r else p :: zfl r k v).length ≤ _
  have := zhu (e := r) (k := k) (v := v)
  split
  ·simp
  ·split <;> simp; exact this
theorem zmm.put {c : Tc} {n k0 : Nat} {r : Rt} {g : Sg} {s : Pg} (h : zmm c n r g s) (hl : k0 ≤ 400) (h6 : (za5 n).cap < 6 → k0 ≤ 60) (he : (zbr r).length ≤ k0) (k v : K) (hk : k.length = (za5 n).kw) (hv : v.length = (za5 n).vw) :
  ∃ r' g', zqo c.sh c.N k v g (zgt r : Nat) = .ok ((zgt r' : Nat), g') ∧ zbr r' = zfl (zbr r) k v ∧ ∀ s', Tok c g' s' → zmm c n r' g' s' := by
 obtain ⟨q1, q2⟩ := qfa hl h6 r h.rt he
 have hacc : Acc 128 g.S (zm4 r ++ []) := by rw [List.append_nil]; exact h.acc
 have hroom : (zm4 r ++ []).length + zgr r + 3 < 128 := by rw [List.append_nil]; exact q1
 obtain ⟨g', a1, a2, a3, -⟩ := qhg (zew n) (N := 128) (by decide) k v hk hv r g [] h.rt h.rep hacc hroom q2
 obtain ⟨b1, b2, b3⟩ := qkr (zew n) 128 k v hk hv r g.S [] h.rt hacc hroom
 rw [List.append_nil, ← a3] at b3
 exact ⟨_, g', by rw [h.cN, h.sh]; exact a1, b2, fun s' h' => ⟨h', b1, a2, b3, by rw [b2]; exact zsv h.es, h.cN, h.sh⟩⟩
theorem zy7 {e : E} {k : K} : (zlo e k).isSome = true ↔ k ∈ keys e := by
 unfold zlo keys
 rw [Option.isSome_map, List.find?_isSome]
 simp
theorem zmm.del {c : Tc} {n k0 : Nat} {r : Rt} {g : Sg} {s : Pg} (h : zmm c n r g s) (hl : k0 ≤ 400) (h6 : (za5 n).cap < 6 → k0 ≤ 60) (he : (zbr r).length ≤ k0) (k : K) :
  ∃ r' g', zuk c.sh c.N k g (zgt r : Nat) = .ok (((zgt r' : Nat), (zlo (zbr r) k).isSome), g') ∧ zbr r' = zcy (zbr r) k ∧ ∀ s', Tok c g' s' → zmm c n r' g' s' := by
 obtain ⟨-, q2⟩ := qfa hl h6 r h.rt he
 have hacc : Acc 128 g.S (zm4 r ++ []) := by rw [List.append_nil]; exact h.acc
 obtain ⟨g', a1, a2, a3, -⟩ := qg8 (zew n) (N := 128) (by decide) (by decide) k r g [] h.rt h.rep hacc q2
 obtain ⟨b1, b0, b2, b3⟩ := qk8 (zew n) 128 (by decide) k r g.S [] h.rt hacc
 rw [List.append_nil, ← a3] at b3
 have hb : (zwj (za5 n) 128 k g.S r).2.1 = (zlo (zbr r) k).isSome := by rw [Bool.eq_iff_iff, b0, zy7]
 rw [hb] at a1
 exact ⟨_, g', by rw [h.cN, h.sh]; exact a1, b2, fun s' h' => ⟨h', b1, a2, b3, by rw [b2]; exact zxr h.es, h.cN, h.sh⟩⟩
theorem zmm.low {c : Tc} {n : Nat} {r : Rt} {g : Sg} {s : Pg} (h : zmm c n r g s) : ∀ x ∈ zm4 r, 1 ≤ x ∧ x < 128 := h.acc.low
theorem zmm.get {c : Tc} {n k0 : Nat} {r : Rt} {g : Sg} {s : Pg} (h : zmm c n r g s) (hl : k0 ≤ 400) (h6 : (za5 n).cap < 6 → k0 ≤ 60) (he : (zbr r).length ≤ k0) (k : K) : zyu c.sh c.N g k (zgt r : Nat) = .ok (zlo (zbr r) k) := by
 rw [h.cN, h.sh]
 exact qiw (zew n) (by decide) k r g h.rt h.rep h.low (qfa hl h6 r h.rt he).2
theorem zmm.check {c : Tc} {n k0 : Nat} {r : Rt} {g : Sg} {s : Pg} (h : zmm c n r g s) (hl : k0 ≤ 400) (h6 : (za5 n).cap < 6 → k0 ≤ 60) (he : (zbr r).length ≤ k0) : zme c.sh c.N g (zgt r : Nat) = .ok ((zbr r).length, (zm4 r).length) := by
 rw [h.cN, h.sh]
 exact qbr (zew n) (by decide) r g h.rt h.rep h.low (qfa hl h6 r h.rt he).2
theorem zmm.all {c : Tc} {n k0 : Nat} {r : Rt} {g : Sg} {s : Pg} (h : zmm c n r g s) (hl : k0 ≤ 400) (h6 : (za5 n).cap < 6 → k0 ≤ 60) (he : (zbr r).length ≤ k0) (f : K) : qp1 c.sh c.N g f (zgt r : Nat) (geE (zbr r) f) := by
 have q2 := (qfa hl h6 r h.rt he).2
 have hs := zew n
 have hlow := h.low
 have hrep := h.rep
 have hr := h.rt
 rw [h.cN, h.sh]
 match r, hr, hrep, hlow, q2 with
 | none, _, _, _, _ => exact .inl ⟨rfl, rfl⟩
 | some ⟨hh, t⟩, hr, hrep, hlow, q2 =>
  have hr : TOk (za5 n) t := hr
  have hlow : ∀ x ∈ pgs t, 1 ≤ x ∧ x < 128 := hlow
  refine .inr ⟨pg t, rfl, ?_, ?_⟩
  ·have := (hlow (pg t) (zcb t)).1
   omega
  ·show qnp (za5 n) 128 g f 16 (pg t) (geE (ents t) f)
   rw [← qc1 t f hr.ord]
   exact qjx hs.kw (by decide) t hr.ord hr.wd hr.below hr.le hr.two (fun h' => by show 2 ≤ (za5 n).fan / 2; have := hs.h4; omega) hrep hlow 16 q2
end Go.Proofs.YtkkfifhaobjicaaGreatDoor
namespace Go.Proofs.YtkkfifhaobjicaaGreatDoor
open Go.RowKit Go.Eng Go.Eng.Bm Go.Eng.Tr
set_option maxRecDepth 100000
set_option maxHeartbeats 40000000
abbrev stC (c : Tc) (xb : Nat) (o : Om) (e : E) : Eng.Item := pt xb (.cells #[.pointer (some ⟨c.pb, 0, none⟩), .pointer (some ⟨c.t, 0, none⟩), slV o.1 e.length, slV o.2 e.length] 41 (0, 0))
def tsL (c : Tc) (xb : Nat) (r : Rt) (s : Pg) (o : Om) : List Eng.Item := [stC c xb o (zbr r), tmI c (zgt r : Nat) s, own 9 1 o.1 (zbr r).length ((zbr r).map fun y => kV y.1), own 9 1 o.2 (zbr r).length ((zbr r).map fun y => kV y.2)]
theorem zdp (c : Tc) (xb : Nat) (r : Rt) (s : Pg) (o : Om) : ∀ it ∈ tsL c xb r s o, it.Stable none' := by
 intro it hm
 rcases hm with _ | ⟨_, _ | ⟨_, _ | ⟨_, _ | ⟨_, hm⟩⟩⟩⟩
 ·exact zac _ _ _
 ·exact zad _
 ·exact zab _ _ _ _ _ _
 ·exact zab _ _ _ _ _ _
 ·cases hm
structure Ty where
 c : Tc
 xb : Nat
 s : Pg
 o : Om
theorem zrr : ∀ it ∈ [ctI], it.Stable none' := by
 intro it hm
 rcases hm with _ | ⟨_, hm⟩
 ·exact zcz _
 ·cases hm
theorem qcb (c : Tc) (xb : Nat) (r : Rt) (s : Pg) (o : Om) : ∀ it ∈ tsL c xb r s o ++ [ctI], it.Stable none' := fun it hm => by
 rcases List.mem_append.1 hm with hm | hm
 ·exact zdp c xb r s o it hm
 ·exact zrr it hm
theorem qfg {s : Pg} {d : Dk} {V : List Bys} {C : PR} (n bt : Nat) (hst : StX s d.D 128 96 zt3 V C 2) (hV : V = V0 128) (hC : C = []) : zmm ⟨d, bt, s.b, za5 n, 128, 96, zt3, V, 2⟩ n none ⟨fun i => zfr V s.C i, upd noU 0 true⟩ s := by
 have hsC : s.C = [] := List.eq_nil_of_length_eq_zero (by rw [← hst.many, hC]; rfl)
 have hview : zfr V s.C 0 = bm0 128 := by rw [hsC, hV]; show (V0 128).getD 0 [] = _; rw [List.getD_eq_getElem?_getD, qij (by decide)]; rfl
 refine ⟨⟨hst.self', rfl, fun _ _ _ => rfl, ?_, qal n, show 1 ≤ 128 by decide, show 128 ≤ 1024 by decide⟩, trivial, trivial, ⟨List.nodup_nil, fun i hi => ?_, fun x hx => nomatch hx⟩, List.Pairwise.nil, rfl, rfl⟩
 ·show qeb 128 (zfr V s.C 0) _
  rw [hview]
  exact qjn 128 (by decide)
 ·show upd noU 0 true i = true ↔ i = 0 ∨ i ∈ []
  unfold upd noU
  by_cases h : i = 0
  ·simp [h]
  ·simp [h]
theorem zlg (n : Nat) (hn : n < 256) (w : World) (hw : ∀ it ∈ [ctI, tzI], za2 it w) (ha : [ctI, tzI].Pairwise Eng.Item.Apart) :
  Ct Tryz.prog 8 #[.int .u8 n] w (zap [ctI, tzI]) (fun y : Ty => .tuple #[.pointer (some ⟨y.xb, 0, none⟩), .bool true]) (fun y => ∃ g, zmm y.c n none g y.s) (fun y => tsL y.c y.xb none y.s y.o ++ [ctI]) := by
 refine zbd [_] _ Tryz.func8 rfl rfl hw ha ?_
 simp only [zaa]
 refine goA ?_
 refine zae rfl (zba (pre := [ctI]) rfl (by kernel_rfl) rfl zrr (fun w1 hw1 hh1 ha1 => zv3 96 (by decide) (by decide) w1 hh1)) fun ⟨x, hx⟩ => ?_
 obtain ⟨⟨hst, ar, -, -, -⟩, hleft, hV, hC⟩ := hx
 obtain ⟨xb, s, d, pv, cv, pm, V, C, A⟩ := x
 dsimp only at hst ar hleft hV hC ⊢
 unfold lwC
 simp only [List.cons_append, List.nil_append]
 refine goA ?_
 refine zde [0, 1, 2, 3, 5] rfl rfl ?_
 refine zaq [0, 1, 2, 3, 4] 16 rfl rfl (by kernel_rfl) ?_
 refine goE ?_
 refine zau 9 ⟨by kernel_rfl, by decide⟩ rfl rfl (zag rfl (by kernel_rfl) rfl (fun w1 hw1 => zod n hn w1)) (fun _ _ h => h) fun _ => ?_
 refine goE ?_
 refine zau 11 ⟨by kernel_rfl, by decide⟩ rfl rfl (qba rfl rfl) (fun _ _ h => goH h) fun ⟨bt, _⟩ => ?_
 refine goE ?_
 refine zau 13 ⟨by kernel_rfl, by decide⟩ rfl rfl (qba rfl rfl) (fun _ _ h => goH h) fun ⟨bs, _⟩ => ?_
 refine goE ?_
 refine zbs (by kernel_rfl) ?_
 refine goA ?_
 have hT := qfg n bt hst hV hC
 refine zb3 (m' := tsL ⟨d, bt, s.b, za5 n, 128, 96, zt3, V, 2⟩ bs none s (none, none) ++ [ctI]) (fun w' hw' => ?_) ?_
 ·have h1 : Hp w (zap [ctI, tzI]) (tmL ⟨d, bt, s.b, za5 n, 128, 96, zt3, V, 2⟩ 0 s ++ [stC ⟨d, bt, s.b, za5 n, 128, 96, zt3, V, 2⟩ bs (none, none) [], ctI]) w' := hw'.pick [1, 3, 4, 6, 0, 5] rfl rfl
  have h2 := zxk 9 1 (zxk 9 1 (zf8 h1))
  exact h2.pick [3, 2, 0, 1, 4] rfl rfl
 ·exact zdq ⟨⟨d, bt, s.b, za5 n, 128, 96, zt3, V, 2⟩, bs, s, (none, none)⟩ rfl rfl rfl rfl ⟨_, hT⟩ (.refl _) (qcb _ _ _ _ _)
end Go.Proofs.YtkkfifhaobjicaaGreatDoor
namespace Go.Proofs.YtkkfifhaobjicaaGreatDoor
open Go.RowKit Go.Eng Go.Eng.Bm Go.Eng.Tr
set_option maxRecDepth 100000
set_option maxHeartbeats 40000000
def qpi (d : Nat) (k v : K) (e : E) : E := if d = 0 then zcy e k else if d = 1 ∨ d = 2 then e else zfl e k v
theorem ql6 (n : Nat) : 2 ≤ (za5 n).kw ∧ (za5 n).kw ≤ 1000 ∧ 2 ≤ (za5 n).vw ∧ (za5 n).vw ≤ 1000 := by
 rcases zfa n with ⟨-, e⟩ | ⟨-, e⟩ | ⟨-, e⟩ | ⟨-, e⟩ | ⟨-, e⟩ <;> (rw [e]; decide)
theorem zt0 {l : zat} {w0 : World} {F : Nat → Prop} {m : List Eng.Item} {ty : TypeId} {x : Operand} {c : Tc} {xb : Nat} {o : Om} {e : E} (hx : evO l x = some (.pointer (some ⟨xb, 2, none⟩))) (hm : stC c xb o e ∈ m) : OV Tryz.prog (.load 39 x) ty l (Hp w0 F m) (dmV o e) :=
 zfi (xs := [slV o.1 e.length, slV o.2 e.length]) hx rfl (fun _ hw j v hv => by
  have := za7 (cs := [.pointer (some ⟨c.pb, 0, none⟩), .pointer (some ⟨c.t, 0, none⟩), slV o.1 e.length, slV o.2 e.length]) (hw.item _ hm).1 (2 + j) v (by rw [Nat.add_comm]; exact hv)
  rwa [Nat.zero_add] at this) rfl
theorem zqc (n : Nat) {k0 : Nat} {c : Tc} (xb : Nat) {r : Rt} {g : Sg} {s : Pg} (o : Om) (h : zmm c n r g s) (hl : k0 ≤ 400) (h6 : (za5 n).cap < 6 → k0 ≤ 60) (he : (zbr r).length ≤ k0) (d k v : Nat) (hk : k < 65536) (hv : v < 65536) (w : World) (hw : ∀ it ∈ tsL c xb r s o, za2 it w) (ha : (tsL c xb r s o).Pairwise Eng.Item.Apart) :
  Ct Tryz.prog 9 #[.pointer (some ⟨xb, 0, none⟩), .agg #[.int .u8 d, .int .u16 k, .int .u16 v]] w (zap (tsL c xb r s o)) (fun _ : Rt × Pg × Om => .bool true) (fun y => (∃ g', zmm c n y.1 g' y.2.1) ∧ zbr y.1 = qpi d (zik k (za5 n).kw) (zik v (za5 n).vw) (zbr r)) (fun y => tsL c xb y.1 y.2.1 y.2.2) := by
 obtain ⟨z1, z2, z3, z4⟩ := ql6 n
 have hsh := h.sh
 refine zbd [_, _] _ Tryz.func9 rfl rfl hw ha ?_
 unfold tsL
 simp only [zaa, Nat.reduceAdd]
 refine goA ?_
 refine zb0 rfl rfl fun b3 hb3 => ?_
 refine goA ?_
 refine zaq [0, 1, 2, 3, 4] 24 rfl rfl (by kernel_rfl) ?_
 refine goE ?_
 refine d_v [] rfl rfl (by kernel_rfl) (fun _ h => goH h) rfl rfl (zmk rfl mm rfl) ?_
 refine goE ?_
 refine d_v [] rfl rfl (by kernel_rfl) (fun _ h => goH h) rfl rfl (zmk rfl mm rfl) ?_
 refine goE ?_
 rw [hsh]
 refine zau 10 ⟨by kernel_rfl, by decide⟩ rfl rfl (zag rfl (by kernel_rfl) rfl (fun w1 hw1 => zok k _ hk z1 z2 w1)) (fun _ _ h => h) fun _ => ?_
 refine goE ?_
 refine zau 21 ⟨by kernel_rfl, by decide⟩ rfl rfl (zag rfl (by kernel_rfl) rfl (fun w1 hw1 => zok v _ hv z3 z4 w1)) (fun _ _ h => h) fun _ => ?_
 refine goE ?_
 refine zbs (by kernel_rfl) ?_
 obtain ⟨key, hkey⟩ : ∃ x, zik k (za5 n).kw = x := ⟨_, rfl⟩
 obtain ⟨val, hval⟩ : ∃ x, zik v (za5 n).vw = x := ⟨_, rfl⟩
 have hkl : key.length = (za5 n).kw := by rw [← hkey]; exact zpz _ _
 have hvl : val.length = (za5 n).vw := by rw [← hval]; exact zpz _ _
 have hb : (zbr r).length ≤ 1000000 := by omega
 rw [hkey, hval]
 refine goA ?_
 by_cases h0 : d = 0
 ·subst h0
  obtain ⟨r', g', e1, e2, e3⟩ := h.del hl h6 he key
  refine goA ?_
  refine za1 [2, 0, 1, 3, 4] rfl rfl ?_
  refine zae rfl (zba (pre := [tmI c (zgt r : Nat) s]) rfl (by kernel_rfl) rfl (zah c _ s) (fun w1 hw1 hh1 ha1 => qgu h.tok _ key (by rw [hsh]; exact hkl) e1 w1 hh1)) fun ⟨s', hs'⟩ => ?_
  have hs' : Tok c g' s' := hs'
  simp only [List.cons_append, List.nil_append]
  refine goA ?_
  refine l_w rfl (zt0 rfl mm) ?_
  refine goA ?_
  refine za1 [3, 4, 0, 1, 2] rfl rfl ?_
  refine zae rfl (zba (pre := dmI o (zbr r)) rfl (by kernel_rfl) rfl (zgg o _) (fun w1 hw1 hh1 ha1 => zsc o (zbr r) h.es key hb w1 hh1 ha1)) fun ⟨o', _⟩ => ?_
  simp only
  unfold dmI
  simp only [List.cons_append, List.nil_append]
  rw [← e2]
  refine goA ?_
  refine zan rfl rfl fun b9 hb9 => ?_
  refine za0 rfl (zai (cs' := dmC o' (zbr r')) rfl rfl rfl rfl (zmd _ _ _) rfl) fun _ => ?_
  refine goA ?_
  refine za0 rfl (zak (zg1 _ _ _ _ _ _ _) (zhe (cs := [.pointer (some ⟨c.pb, 0, none⟩), .pointer (some ⟨c.t, 0, none⟩), slV o.1 (zbr r).length, slV o.2 (zbr r).length]) (V := [slV o'.1 (zbr r').length, slV o'.2 (zbr r').length]) rfl rfl rfl rfl rfl (zmd _ _ _) (show (2 + 2 : Nat) ≤ 4 from by decide))) fun _ => ?_
  refine goA ?_
  refine zeh [0, 4, 2, 3] rfl rfl ?_
  exact zbw (r', s', o') rfl rfl rfl ⟨⟨g', e3 s' hs'⟩, e2⟩ (.refl _) (zdp c xb r' s' o')
 ·by_cases h1 : d = 1
  ·subst h1
   refine goA ?_
   refine za1 [2, 0, 1, 3, 4] rfl rfl ?_
   refine zae rfl (zba (pre := [tmI c (zgt r : Nat) s]) rfl (by kernel_rfl) rfl (zah c _ s) (fun w1 hw1 hh1 ha1 => qm2 h.tok _ key (by rw [hsh]; exact hkl) (h.get hl h6 he key) w1 hh1)) fun ⟨s', hs'⟩ => ?_
   have hs' : Tok c g s' := hs'
   simp only [List.cons_append, List.nil_append]
   refine goA ?_
   refine l_w rfl (zt0 rfl mm) ?_
   refine goA ?_
   refine zae rfl (zag rfl (by kernel_rfl) rfl (fun w1 hw1 => zr8 o (zbr r) h.es key hb w1 (zp3 hw1 mm mm))) fun _ => ?_
   refine goA ?_
   refine zeh [2, 0, 3, 4] rfl rfl ?_
   exact zbw (r, s', o) rfl rfl rfl ⟨⟨g, h.store hs'⟩, rfl⟩ (.refl _) (zdp c xb r s' o)
  ·by_cases h2 : d = 2
   ·subst h2
    obtain ⟨also, hal⟩ : ∃ b, (((v % 2 : Nat) : Int) == 1) = b := ⟨_, rfl⟩
    have hfr : (geE (zbr r) key).find? (frP key also) = zia (zbr r) key also := qmm (zbr r) key also
    refine goA ?_
    refine zde [2, 0, 1, 3, 4] rfl rfl ?_
    refine zaq [1, 2, 3, 4] 19 rfl rfl (by kernel_rfl) ?_
    refine goE ?_
    rw [hal]
    refine zau 9 ⟨by kernel_rfl, by decide⟩ rfl rfl (zba (pre := [tmI c (zgt r : Nat) s]) rfl (by kernel_rfl) rfl (zah c _ s) (fun w1 hw1 hh1 ha1 => from_ok' h.tok _ key also (by rw [hkl]; omega) (h.all hl h6 he key) w1 hh1)) (fun _ _ h => goH h) fun ⟨s', hs'⟩ => ?_
    have hs' : Tok c g s' := hs'
    rw [hfr]
    unfold frV
    simp only [List.cons_append, List.nil_append]
    refine goE ?_
    refine zbs (by kernel_rfl) ?_
    refine goA ?_
    refine zaq [0, 1, 2, 3, 4] 17 rfl rfl (by kernel_rfl) ?_
    refine goE ?_
    refine d_v [] rfl rfl (by kernel_rfl) (fun _ h => goH h) rfl rfl (zt0 rfl mm) ?_
    refine goE ?_
    rw [hal]
    refine zau 9 ⟨by kernel_rfl, by decide⟩ rfl rfl (zag rfl (by kernel_rfl) rfl (fun w1 hw1 => zyh o (zbr r) key also hb w1 (zp3 hw1 mm mm))) (fun _ _ h => h) fun _ => ?_
    refine goE ?_
    refine zbs (by kernel_rfl) ?_
    refine goA ?_
    refine zeh [2, 0, 3, 4] rfl rfl ?_
    exact zbw (r, s', o) rfl rfl rfl ⟨⟨g, h.store hs'⟩, rfl⟩ (.refl _) (zdp c xb r s' o)
   ·obtain ⟨r', g', e1, e2, e3⟩ := h.put hl h6 he key val hkl hvl
    refine goA ?_
    refine l_w rfl (zt0 rfl mm) ?_
    refine goA ?_
    refine za1 [3, 4, 0, 1, 2] rfl rfl ?_
    refine zae rfl (zba (pre := dmI o (zbr r)) rfl (by kernel_rfl) rfl (zgg o _) (fun w1 hw1 hh1 ha1 => qch o (zbr r) h.es key val hb w1 hh1 ha1)) fun ⟨o', _⟩ => ?_
    simp only
    unfold dmI
    simp only [List.cons_append, List.nil_append]
    rw [← e2]
    refine goA ?_
    refine za0 rfl (zak (zdl _ _ _ _ _) (zhe (cs := [.pointer (some ⟨c.pb, 0, none⟩), .pointer (some ⟨c.t, 0, none⟩), slV o.1 (zbr r).length, slV o.2 (zbr r).length]) (V := [slV o'.1 (zbr r').length, slV o'.2 (zbr r').length]) rfl rfl rfl rfl rfl (zmd _ _ _) (show (2 + 2 : Nat) ≤ 4 from by decide))) fun _ => ?_
    refine goA ?_
    refine za1 [4, 0, 1, 2] rfl rfl ?_
    refine zae rfl (zba (pre := [tmI c (zgt r : Nat) s]) rfl (by kernel_rfl) rfl (zah c _ s) (fun w1 hw1 hh1 ha1 => zqx h.tok _ key val (by rw [hsh]; exact hkl) (by rw [hsh]; exact hvl) e1 w1 hh1)) fun ⟨s', hs'⟩ => ?_
    have hs' : Tok c g' s' := hs'
    simp only [List.cons_append, List.nil_append]
    refine goA ?_
    refine zeh [1, 0, 2, 3] rfl rfl ?_
    exact zbw (r', s', o') rfl rfl rfl ⟨⟨g', e3 s' hs'⟩, by rw [e2]; unfold qpi; rw [if_neg h0, if_neg (by omega)]⟩ (.refl _) (zdp c xb r' s' o')
def smL (c : Tc) (xb b4 b3 b1 : Nat) (o : Om) (e : E) (i : Nat) : List Eng.Item := [pt b4 (.cells #[.bool true] 4 (0, 0)), pt b3 (.cells #[.int .i64 (i : Nat)] 3 (0, 0)), pt b1 (.cells #[.pointer (some ⟨xb, 0, none⟩)] 25 (0, 0)), stC c xb o e, own 9 1 o.1 e.length (e.map fun y => kV y.1), own 9 1 o.2 e.length (e.map fun y => kV y.2)]
theorem zmq (c : Tc) (xb b4 b3 b1 : Nat) (o : Om) (e : E) (i : Nat) : ∀ it ∈ smL c xb b4 b3 b1 o e i, it.Stable none' := by simp [smL, zac, zab]
theorem zx7 (c : Tc) (xb b4 b3 b1 : Nat) (o : Om) (e : E) (hb : e.length ≤ 1000000) (i : Nat) (y : K × K) (hy : e[i]? = some y) (w : World) (hw : ∀ it ∈ smL c xb b4 b3 b1 o e i, za2 it w) (ha : (smL c xb b4 b3 b1 o e i).Pairwise Eng.Item.Apart) :
  Ct Tryz.prog 29 #[kV y.1, kV y.2, .pointer (some ⟨b4, 0, none⟩), .pointer (some ⟨b3, 0, none⟩), .pointer (some ⟨b1, 0, none⟩)] w (zap (smL c xb b4 b3 b1 o e i)) (fun x : Bool × Nat => .bool x.1) (fun x => x = (true, i + 1)) (fun x => smL c xb b4 b3 b1 o e x.2) := by
 obtain ⟨hlt, -⟩ := List.getElem?_eq_some_iff.1 hy
 refine zbd [.string (kB y.1), .string (kB y.2), _, _, _] _ Tryz.func29 rfl rfl hw ha ?_
 unfold smL
 simp only [zaa, Nat.reduceAdd]
 refine zf2 (fun w hw => And.intro (zbq (hw.item (own 9 1 o.1 e.length (e.map fun y => kV y.1)) mm).1 (by omega)) (zbq (hw.item (own 9 1 o.2 e.length (e.map fun y => kV y.2)) mm).1 (by omega))) fun ⟨⟨kb, kc, e1⟩, ⟨vb, vc, e2⟩⟩ => ?_
 obtain ⟨o1, o2⟩ := o
 simp only at e1 e2
 subst e1
 subst e2
 unfold stC
 simp only [qpy]
 refine goA ?_
 refine zaq [0, 1, 2, 3, 4, 5] 35 rfl rfl (by kernel_rfl) ?_
 refine goE ?_
 refine d_v [] rfl rfl (by kernel_rfl) (fun _ h => goH h) rfl rfl (ziv (v := .string (kB y.1)) rfl rfl (.tail _ (.tail _ (.tail _ (.tail _ (.head _))))) (by rw [List.getElem?_map, Nat.zero_add, hy]; rfl)) ?_
 refine goE ?_
 refine d_v [] rfl rfl (by kernel_rfl) (fun _ h => goH h) rfl rfl (ziv (v := .string (kB y.2)) rfl rfl (.tail _ (.tail _ (.tail _ (.tail _ (.tail _ (.head _)))))) (by rw [List.getElem?_map, Nat.zero_add, hy]; rfl)) ?_
 refine goE ?_
 rw [show seq (kB y.2) (kB y.2) = true by simp [seq]]
 refine zdk ⟨by kernel_rfl, by kernel_rfl⟩ rfl rfl (zaj rfl rfl rfl rfl rfl rfl (by simp)) fun _ => ?_
 refine goA ?_
 refine za0 rfl (zak (zci _ _ _) (zaj rfl rfl rfl rfl rfl rfl (by simp))) fun _ => ?_
 refine goA ?_
 refine zeh [1, 0, 2, 3, 4, 5] rfl rfl ?_
 exact zbw (true, i + 1) rfl rfl rfl rfl (.refl _) (zmq c xb b4 b3 b1 (some (kb, kc), some (vb, vc)) e (i + 1))
theorem qlz (e : E) : geE e [] = e := by
 unfold geE
 exact List.filter_eq_self.2 fun q _ => by
  have : ¬ kl q.1 [] := fun h => by obtain ⟨a, b⟩ := q; cases a <;> cases h
  simpa using this
theorem zo6 (n : Nat) {k0 : Nat} {c : Tc} (xb : Nat) {r : Rt} {g : Sg} {s : Pg} (o : Om) (h : zmm c n r g s) (hl : k0 ≤ 400) (h6 : (za5 n).cap < 6 → k0 ≤ 60) (he : (zbr r).length ≤ k0) (w : World) (hw : ∀ it ∈ tsL c xb r s o, za2 it w) (ha : (tsL c xb r s o).Pairwise Eng.Item.Apart) :
  Ct Tryz.prog 10 #[.pointer (some ⟨xb, 0, none⟩)] w (zap (tsL c xb r s o)) (fun _ : Pg => .bool true) (fun s' => zmm c n r g s') (fun s' => tsL c xb r s' o) := by
 have hb : (zbr r).length ≤ 1000000 := by omega
 refine zbd [_] _ Tryz.func10 rfl rfl hw ha ?_
 unfold tsL
 simp only [zaa]
 refine goA ?_
 refine zd2 rfl rfl rfl fun b1 hb1 => ?_
 refine goA ?_
 refine zeb rfl rfl rfl fun b3 hb3 => ?_
 refine goA ?_
 refine za0 rfl (zaj rfl rfl rfl rfl rfl rfl (by simp)) fun _ => ?_
 refine goA ?_
 refine zeb rfl rfl rfl fun b4 hb4 => ?_
 refine goA ?_
 refine za0 rfl (zaj rfl rfl rfl rfl rfl rfl (by simp)) fun _ => ?_
 refine goA ?_
 refine l_w rfl (znm rfl) ?_
 refine goA ?_
 have hA := h.all hl h6 he []
 rw [qlz] at hA
 refine za1 [4, 0, 1, 2, 3, 5, 6] rfl rfl ?_
 refine zae rfl (zba (pre := tmI c (zgt r : Nat) s :: smL c xb b4 b3 b1 o (zbr r) 0) rfl (by kernel_rfl) rfl (fun it hm => by
  rcases hm with _ | ⟨_, hm⟩
  ·exact zad _
  ·exact zmq _ _ _ _ _ _ _ _ it hm) (fun w1 hw1 hh1 ha1 => qls h.tok _ hA (fun i => smL c xb b4 b3 b1 o (zbr r) i) (fun k i => i = k.length) (fun _ => False) 0 (fd := 29) (cs := [.pointer (some ⟨b4, 0, none⟩), .pointer (some ⟨b3, 0, none⟩), .pointer (some ⟨b1, 0, none⟩)]) (by kernel_rfl) (fun i => zmq _ _ _ _ _ _ _ i) rfl (fun k y st hp hI w2 hw2 ha2 => by
   subst hI
   obtain ⟨t, ht⟩ := hp
   exact (zx7 c xb b4 b3 b1 o (zbr r) hb k.length y (by rw [← ht]; simp) w2 hw2 ha2).map fun x hx => ⟨x, rfl, .inl (by rw [hx]; exact ⟨rfl, by simp⟩), rfl⟩) w1 hh1 ha1)) fun ⟨⟨s', i⟩, hs', hi⟩ => ?_
 have hs' : Tok c g s' := hs'
 obtain rfl : i = (zbr r).length := hi.resolve_right fun h => h
 simp only
 unfold smL
 simp only [List.cons_append, List.nil_append]
 refine goA ?_
 refine zf2 (fun w hw => (zav (hw.item (own 9 1 o.1 (zbr r).length ((zbr r).map fun y => kV y.1)) mm).1).1) fun f1 => ?_
 unfold stC
 rw [f1]
 refine zaq [0, 1, 2, 3, 4, 5, 6] 16 rfl rfl (by kernel_rfl) ?_
 refine goE ?_
 refine zbs (by kernel_rfl) ?_
 refine goA ?_
 refine zeh [4, 0, 5, 6] rfl rfl ?_
 exact zbw s' rfl rfl (by simp) (h.store hs') (.refl _) (by have := zdp c xb r s' o; unfold tsL stC at this; rw [f1] at this; exact this)
end Go.Proofs.YtkkfifhaobjicaaGreatDoor
