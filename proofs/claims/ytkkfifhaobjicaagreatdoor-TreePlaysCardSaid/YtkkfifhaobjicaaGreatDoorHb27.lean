/- Plain mathematics of bit maps: words and bytes of a set of numbers; how many bits; the least that is not there. Own work; no condition. -/
/- Contracts of package bits. -/
import Derived.Test.YtkkfifhaobjicaaGreatDoorHb01
import Derived.Test.YtkkfifhaobjicaaGreatDoorChecked
import Derived.Test.YtkkfifhaobjicaaGreatDoorHb13
import Derived.Test.YtkkfifhaobjicaaGreatDoorHb15
namespace Go.Eng.Bm
def num (f : Nat → Bool) : Nat → Nat
 | 0 => 0
 | n + 1 => num f n + (bif f n then 2 ^ n else 0)
theorem zzx (f : Nat → Bool) : ∀ n, num f n < 2 ^ n
 | 0 => by simp [num]
 | n + 1 => by
  have := zzx f n
  simp only [num, Nat.pow_succ]
  cases f n <;> simp <;> omega
theorem zcr (f : Nat → Bool) : ∀ n j, (num f n).testBit j = (decide (j < n) && f j)
 | 0, j => by simp [num]
 | n + 1, j => by
  have hlt := zzx f n
  have ih := zcr f n j
  simp only [num]
  cases hf : f n
  ·simp only [cond_false, Nat.add_zero, ih]
   by_cases h : j < n
   ·simp [h, Nat.lt_succ_of_lt h]
   ·by_cases e : j = n
    ·subst e; simp [hf]
    ·simp only [h, decide_false, Bool.false_and, show ¬ j < n + 1 by omega]
  ·simp only [cond_true]
   rw [Nat.add_comm]
   by_cases h : j < n
   ·rw [Nat.testBit_two_pow_add_gt h, ih]; simp [h, Nat.lt_succ_of_lt h]
   ·by_cases e : j = n
    ·subst e; rw [Nat.testBit_two_pow_add_eq, ih]; simp [hf]
    ·have h2 : 2 ^ n + num f n < 2 ^ j := Nat.lt_of_lt_of_le (show 2 ^ n + num f n < 2 ^ (n + 1) by rw [Nat.pow_succ]; omega) (Nat.pow_le_pow_right (by decide) (by omega))
     rw [Nat.testBit_lt_two_pow h2]
     simp [show ¬ j < n + 1 by omega]
theorem zv5 {f g : Nat → Bool} {n : Nat} (h : ∀ j, j < n → f j = g j) : num f n = num g n := Nat.eq_of_testBit_eq fun j => by
 rw [zcr, zcr]
 by_cases hj : j < n
 ·rw [h j hj]
 ·simp [hj]
def upd (S : Nat → Bool) (i : Nat) (u : Bool) : Nat → Bool := fun j => if j = i then u else S j
def zpw (S : Nat → Bool) (k : Nat) : Nat := num (fun i => S (64 * k + i)) 64
def byte (S : Nat → Bool) (k : Nat) : Nat := num (fun i => S (8 * k + i)) 8
theorem zxe (S : Nat → Bool) (k : Nat) : zpw S k < 18446744073709551616 := zzx _ 64
theorem qex (S : Nat → Bool) (k : Nat) : byte S k < 256 := zzx _ 8
def clr (x j : Nat) : Nat := x &&& (18446744073709551615 ^^^ 2 ^ j)
def qmw (x j : Nat) (u : Bool) : Nat := bif u then clr x j ||| 2 ^ j else clr x j
theorem qnx {x : Nat} (j : Nat) (h : x < 18446744073709551616) : clr x j < 18446744073709551616 := Nat.lt_of_le_of_lt Nat.and_le_left h
theorem qoz {j : Nat} (h : j < 64) : 2 ^ j < 18446744073709551616 := Nat.pow_lt_pow_right (n := 64) (by decide) h
theorem zhq (i : Nat) : (18446744073709551615 : Nat).testBit i = decide (i < 64) := Nat.testBit_two_pow_sub_one 64 i
theorem zqe (x j i : Nat) (hx : x < 18446744073709551616) : (clr x j).testBit i = (if i = j then false else x.testBit i) := by
 unfold clr
 rw [Nat.testBit_and, Nat.testBit_xor, zhq, Nat.testBit_two_pow]
 by_cases hi : i < 64
 ·by_cases e : i = j
  ·subst e; simp [hi]
  ·simp [hi, e, Ne.symm e]
 ·have : x.testBit i = false := Nat.testBit_lt_two_pow (Nat.lt_of_lt_of_le hx (Nat.pow_le_pow_right (n := 2) (i := 64) (by decide) (by omega)))
  simp [this]
theorem zuq (x j i : Nat) (u : Bool) (hx : x < 18446744073709551616) : (qmw x j u).testBit i = (if i = j then u else x.testBit i) := by
 unfold qmw
 cases u
 ·simp only [cond_false]; exact zqe x j i hx
 ·simp only [cond_true]
  rw [Nat.testBit_or, zqe x j i hx, Nat.testBit_two_pow]
  by_cases e : i = j
  ·subst e; simp
  ·simp [e, Ne.symm e]
theorem qel (S : Nat → Bool) (k j : Nat) (u : Bool) (hj : j < 64) : qmw (zpw S k) j u = zpw (upd S (64 * k + j) u) k := Nat.eq_of_testBit_eq fun i => by
 rw [zuq _ _ _ _ (zxe S k)]
 unfold zpw
 rw [zcr, zcr]
 unfold upd
 by_cases e : i = j
 ·subst e; simp [hj]
 ·simp [e]
theorem zqq (S : Nat → Bool) (i k : Nat) (u : Bool) (h : k ≠ i / 64) : zpw (upd S i u) k = zpw S k := zv5 fun j hj => by
 unfold upd
 rw [if_neg (by omega)]
theorem zin (S : Nat → Bool) (k j : Nat) (hj : j < 64) : (zpw S k).testBit j = S (64 * k + j) := by
 unfold zpw; rw [zcr]; simp [hj]
/-! ### Digits -/
def V (k : Nat) (g : Nat → Nat) : Nat → Nat
 | 0 => 0
 | n + 1 => g 0 + 2 ^ k * V k (fun i => g (i + 1)) n
def M (k : Nat) : Nat → Nat
 | 0 => 0
 | n + 1 => (2 ^ k - 1) + 2 ^ (2 * k) * M k n
theorem qgf (s a b c d : Nat) (ha : a < 2 ^ s) (hc : c < 2 ^ s) : (a + 2 ^ s * b) &&& (c + 2 ^ s * d) = (a &&& c) + 2 ^ s * (b &&& d) := by
 have hac : a &&& c < 2 ^ s := Nat.lt_of_le_of_lt Nat.and_le_left ha
 rw [Nat.add_comm a, Nat.add_comm c, Nat.add_comm (a &&& c), Nat.two_pow_add_eq_or_of_lt ha, Nat.two_pow_add_eq_or_of_lt hc, Nat.two_pow_add_eq_or_of_lt hac]
 refine Nat.eq_of_testBit_eq fun i => ?_
 simp only [Nat.testBit_and, Nat.testBit_or, Nat.testBit_two_pow_mul]
 by_cases hi : s ≤ i
 ·have e1 : a.testBit i = false := Nat.testBit_lt_two_pow (Nat.lt_of_lt_of_le ha (Nat.pow_le_pow_right (by decide) hi))
  have e2 : c.testBit i = false := Nat.testBit_lt_two_pow (Nat.lt_of_lt_of_le hc (Nat.pow_le_pow_right (by decide) hi))
  simp [hi, e1, e2]
 ·simp [hi]
def g1 (f : Nat → Bool) (i : Nat) : Nat := (f (2 * i + 1)).toNat + (f (2 * i)).toNat
def g2 (f : Nat → Bool) (i : Nat) : Nat := g1 f (2 * i + 1) + g1 f (2 * i)
def g3 (f : Nat → Bool) (i : Nat) : Nat := g2 f (2 * i + 1) + g2 f (2 * i)
/-! ### The least bit -/
def tab64 : List Nat := [0, 1, 56, 2, 57, 49, 28, 3, 61, 58, 42, 50, 38, 29, 17, 4, 62, 47, 59, 36, 45, 43, 51, 22, 53, 39, 33, 30, 24, 18, 12, 5, 63, 55, 48, 27, 60, 41, 37, 16, 46, 35, 44, 21, 52, 32, 23, 11, 54, 26, 40, 15, 34, 20, 31, 10, 25, 14, 19, 9, 13, 8, 7, 6]
def zyy (t : Nat) : Nat := 2 ^ t * 285870213051353865 % 18446744073709551616 / 2 ^ 58
theorem qog : ∀ t, t < 64 → zyy t < 64 ∧ tab64.getD (zyy t) 0 = t := by decide +kernel
theorem qmg {x t : Nat} (hx : x < 18446744073709551616) (ht : x.testBit t = true) (hl : ∀ j, j < t → x.testBit j = false) : x &&& (18446744073709551616 - x) = 2 ^ t := by
 have ht64 : t < 64 := by
  rcases Nat.lt_or_ge t 64 with h | h
  ·exact h
  ·have : x.testBit t = false := Nat.testBit_lt_two_pow (Nat.lt_of_lt_of_le hx (Nat.pow_le_pow_right (n := 2) (i := 64) (by decide) h))
   rw [this] at ht; cases ht
 have hmod : x % 2 ^ (t + 1) = 2 ^ t := Nat.eq_of_testBit_eq fun j => by
  rw [Nat.testBit_mod_two_pow, Nat.testBit_two_pow]
  by_cases h1 : j < t
  ·simp [hl j h1]; omega
  ·by_cases h2 : j = t
   ·subst h2; simp [ht]
   ·simp [show ¬ j < t + 1 by omega]; omega
 have hq := Nat.mod_add_div x (2 ^ (t + 1))
 rw [hmod] at hq
 generalize hqq : x / 2 ^ (t + 1) = q at hq
 obtain ⟨m, hm⟩ : ∃ m, 64 = t + 1 + m := ⟨64 - (t + 1), by omega⟩
 have h64 : (18446744073709551616 : Nat) = 2 ^ (t + 1) * 2 ^ m := by rw [← Nat.pow_add, ← hm]
 have hqm : q < 2 ^ m := by
  rw [← hqq]
  exact Nat.div_lt_of_lt_mul (by rw [← h64]; exact hx)
 have e : 18446744073709551616 - x = 2 ^ t + 2 ^ (t + 1) * (2 ^ m - (q + 1)) := by
  have e2 : 2 ^ (t + 1) = 2 ^ t + 2 ^ t := by rw [Nat.pow_succ]; omega
  obtain ⟨r, hr⟩ : ∃ r, 2 ^ m = q + 1 + r := ⟨2 ^ m - (q + 1), by omega⟩
  rw [h64, hr, ← hq, show q + 1 + r - (q + 1) = r by omega]
  rw [Nat.mul_add, Nat.mul_add]
  omega
 have hlt : 2 ^ t < 2 ^ (t + 1) := Nat.pow_lt_pow_right (by decide) (by omega)
 conv => lhs; lhs; rw [← hq]
 rw [e, qgf (t + 1) (2 ^ t) q (2 ^ t) (2 ^ m - (q + 1)) hlt hlt, Nat.and_self]
 have : q &&& (2 ^ m - (q + 1)) = 0 := Nat.eq_of_testBit_eq fun j => by
  rw [Nat.testBit_and, Nat.testBit_two_pow_sub_succ hqm]
  cases q.testBit j <;> simp
 rw [this]; simp
theorem qat (S : Nat → Bool) (k j : Nat) (hj : j < 64) : (18446744073709551615 ^^^ zpw S k).testBit j = !S (64 * k + j) := by
 rw [Nat.testBit_xor, zhq, zin S k j hj]; simp [hj]
theorem qfn {S : Nat → Bool} {k : Nat} (h : ∀ j, j < 64 → S (64 * k + j) = true) : zpw S k = 18446744073709551615 := Nat.eq_of_testBit_eq fun j => by
 rw [zhq]
 unfold zpw
 rw [zcr]
 by_cases hj : j < 64
 ·simp [hj, h j hj]
 ·simp [hj]
theorem zwd {S : Nat → Bool} {k j : Nat} (hj : j < 64) (h : S (64 * k + j) = false) : zpw S k ≠ 18446744073709551615 := fun e => by
 have := zin S k j hj
 rw [e, h, zhq] at this
 simp [hj] at this
/-! ### Bytes -/
def zdm (S : Nat → Bool) (k : Nat) : Nat → Bool := fun i => decide (i < k) && S i
theorem qlj (S : Nat → Bool) (k : Nat) (h : S k = true) : byte (zdm S k) (k / 8) ||| 2 ^ (k % 8) = byte (zdm S (k + 1)) (k / 8) := Nat.eq_of_testBit_eq fun i => by
 rw [Nat.testBit_or, Nat.testBit_two_pow]
 unfold byte
 rw [zcr, zcr]
 unfold zdm
 by_cases hi : i < 8
 ·by_cases e : 8 * (k / 8) + i = k
  ·have : k % 8 = i := by omega
   simp [e, h, this, hi]
  ·have h1 : ¬ k % 8 = i := by omega
   by_cases h2 : 8 * (k / 8) + i < k
   ·simp [h1, h2, Nat.lt_succ_of_lt h2]
   ·simp only [h1, h2, decide_false, Bool.false_and, Bool.and_false, Bool.or_false, show ¬ 8 * (k / 8) + i < k + 1 by omega]
 ·simp [hi]; omega
theorem zvn (S : Nat → Bool) (k j : Nat) (h : j ≠ k / 8 ∨ S k = false) : byte (zdm S (k + 1)) j = byte (zdm S k) j := zv5 fun i hi => by
 unfold zdm
 by_cases e : 8 * j + i = k
 ·rcases h with h | h
  ·omega
  ·rw [e, h]; simp
 ·by_cases h2 : 8 * j + i < k
  ·simp [h2, Nat.lt_succ_of_lt h2]
  ·simp only [h2, decide_false, Bool.false_and, show ¬ 8 * j + i < k + 1 by omega]
theorem zur (S : Nat → Bool) (k j : Nat) (hj : j < 8) : (byte S k).testBit j = S (8 * k + j) := by
 unfold byte; rw [zcr]; simp [hj]
end Go.Eng.Bm
namespace Go.Proofs.YtkkfifhaobjicaaGreatDoor
open Go.RowKit Go.Eng Go.Eng.Bm
set_option maxRecDepth 100000
set_option maxHeartbeats 40000000
theorem zvm (c : Array Value) (n i : Int) (w : World) (hc : c[0]? = some (.int .i64 n)) :
  Pu Tryz.prog 58 #[.agg c, .int .i64 i] w (.bool (decide (0 ≤ i) && decide (i < n))) := by
 refine zbl [_, _] Tryz.func58 rfl rfl ?_
 simp only [zaa, Nat.reduceAdd]
 refine goA ?_
 refine zb0 rfl rfl fun b hb => ?_
 refine goA ?_
 refine qme 7 _ rfl (fun h => ?_) (fun h => ?_)
 ·refine goA ?_
  refine l_w rfl ((zc6 rfl rfl (.head _) hc)) ?_
  refine goA ?_
  refine zc2 rfl rfl ?_
  simp only [ge_iff_le] at h; rw [h]; rfl
 ·refine goA ?_
  refine zc2 rfl rfl ?_
  simp only [ge_iff_le] at h; rw [h]; rfl
theorem qmq (c : Array Value) (n i : Int) (u : Bool) (w : World) (hc : c[0]? = some (.int .i64 n)) (hs : c.size = 17) (h1 : zbz c.toList = true) (hi : (decide (0 ≤ i) && decide (i < n)) = false) :
  Pu Tryz.prog 59 #[.agg c, .int .i64 i, .bool u] w (.agg c) := by
 refine zbl [_, _, _] Tryz.func59 rfl rfl ?_
 simp only [zaa, Nat.reduceAdd]
 refine goA ?_
 refine zb0 rfl rfl fun b hb => ?_
 refine goA ?_
 refine zan rfl rfl fun r hr => ?_
 refine goA ?_
 refine l_w rfl ((zd3 rfl (by rw [hs]; rfl) (.tail _ (.head _)))) ?_
 refine goA ?_
 refine zae rfl (zag rfl (by kernel_rfl) rfl (fun w _ => zvm c n i w hc)) fun _ => ?_
 refine zdc 9 _ (.bool false) rfl (by rw [hi]) ?_
 refine goA ?_
 refine l_w rfl ((zd3 rfl (by rw [hs]; rfl) (.tail _ (.head _)))) ?_
 refine za0 rfl (zai rfl rfl rfl (by rw [hs]; rfl) h1 hs) fun _ => ?_
 refine goA ?_
 exact zc2 rfl ⟨_, rfl, zas (by rw [hs]; rfl) (.head _)⟩ rfl
theorem qnc (c : Array Value) (n k : Nat) (u : Bool) (w : World) (hc : c[0]? = some (.int .i64 n)) (hs : c.size = 17) (h1 : zbz c.toList = true) (hi : k < n) (hn : n ≤ 1024) (x : Nat) (hx : c[1 + k / 64]? = some (.int .u64 x)) (hx2 : x < 18446744073709551616) :
  Pu Tryz.prog 59 #[.agg c, .int .i64 k, .bool u] w (.agg (c.setIfInBounds (1 + k / 64) (.int .u64 (qmw x (k % 64) u)))) := by
 refine zbl [_, _, _] Tryz.func59 rfl rfl ?_
 simp only [zaa, Nat.reduceAdd]
 refine goA ?_
 refine zb0 rfl rfl fun b hb => ?_
 refine goA ?_
 refine zan rfl rfl fun r hr => ?_
 refine goA ?_
 refine l_w rfl ((zd3 rfl (by rw [hs]; rfl) (.tail _ (.head _)))) ?_
 refine goA ?_
 refine zae rfl (zag rfl (by kernel_rfl) rfl (fun w _ => zvm c n k w hc)) fun _ => ?_
 refine zdc 9 _ (.bool true) rfl (by simp; omega) ?_
 refine goA ?_
 refine zzk 11 (by kernel_rfl) (fun _ h => h.drew) ?_
 have hk : k / 64 < 16 := by omega
 have hp : 2 ^ (k % 64) < 18446744073709551616 := qoz (by omega)
 have hpe : 1 * 2 ^ (k % 64) % 18446744073709551616 = 2 ^ (k % 64) := by rw [Nat.one_mul, Nat.mod_eq_of_lt hp]
 (repeat first | (apply d_w [8] rfl rfl rfl (by kernel_rfl) (fun _ h => h); focus (first | exact zhd rfl | exact zez rfl | exact qd5 rfl rfl | exact zdy rfl rfl | exact zdi rfl rfl | exact zfu rfl rfl | exact zil rfl rfl | exact zey rfl rfl | exact qc5 rfl | exact zev rfl rfl (by repeat first | exact .head _ | apply List.Mem.tail) | exact zc6 rfl rfl (by repeat first | exact .head _ | apply List.Mem.tail) rfl | exact zd3 rfl rfl (by repeat first | exact .head _ | apply List.Mem.tail) | exact zpf rfl rfl rfl | ((first | refine qcl rfl rfl ?_ | refine zmj rfl rfl rfl ?_ | refine zpk rfl rfl rfl ?_ | refine qdl rfl rfl rfl ?_ | refine qep rfl rfl rfl ?_ | refine qe3 rfl rfl rfl ?_ | refine zoy rfl rfl rfl rfl ?_ | refine qfi rfl rfl rfl rfl ?_ | refine qdb rfl rfl rfl ?_ | refine qf3 rfl rfl rfl ?_); first | omega | assumption) | exact qc3 rfl rfl (by first | omega | assumption | (simp; done) | exact fun h => h (by assumption) | fail) | exact qf5 rfl rfl (by first | omega | assumption | (simp; done) | exact fun h => h (by assumption) | fail) | exact zgo rfl rfl rfl)) | refine qj8 [8] rfl rfl rfl (by kernel_rfl) (fun _ h => h) ?_ | refine d_T [8] rfl rfl rfl rfl (by first | omega | assumption | (simp; done) | exact fun h => h (by assumption) | fail) ?_ | refine d_F [8] rfl rfl rfl rfl (by first | omega | assumption | (simp; done) | exact fun h => h (by assumption) | fail) ?_)
 refine d_v [] rfl rfl (by kernel_rfl) (fun _ h => h) rfl rfl (zc6 rfl rfl (.tail _ (.head _)) hx) ?_
 (repeat first | (apply d_w [8] rfl rfl rfl (by kernel_rfl) (fun _ h => h); focus (first | exact zhd rfl | exact zez rfl | exact qd5 rfl rfl | exact zdy rfl rfl | exact zdi rfl rfl | exact zfu rfl rfl | exact zil rfl rfl | exact zey rfl rfl | exact qc5 rfl | exact zev rfl rfl (by repeat first | exact .head _ | apply List.Mem.tail) | exact zc6 rfl rfl (by repeat first | exact .head _ | apply List.Mem.tail) rfl | exact zd3 rfl rfl (by repeat first | exact .head _ | apply List.Mem.tail) | exact zpf rfl rfl rfl | ((first | refine qcl rfl rfl ?_ | refine zmj rfl rfl rfl ?_ | refine zpk rfl rfl rfl ?_ | refine qdl rfl rfl rfl ?_ | refine qep rfl rfl rfl ?_ | refine qe3 rfl rfl rfl ?_ | refine zoy rfl rfl rfl rfl ?_ | refine qfi rfl rfl rfl rfl ?_ | refine qdb rfl rfl rfl ?_ | refine qf3 rfl rfl rfl ?_); first | omega | assumption) | exact qc3 rfl rfl (by first | omega | assumption | (simp; done) | exact fun h => h (by assumption) | fail) | exact qf5 rfl rfl (by first | omega | assumption | (simp; done) | exact fun h => h (by assumption) | fail) | exact zgo rfl rfl rfl)) | refine qj8 [8] rfl rfl rfl (by kernel_rfl) (fun _ h => h) ?_ | refine d_T [8] rfl rfl rfl rfl (by first | omega | assumption | (simp; done) | exact fun h => h (by assumption) | fail) ?_ | refine d_F [8] rfl rfl rfl rfl (by first | omega | assumption | (simp; done) | exact fun h => h (by assumption) | fail) ?_)
 simp only [hpe]
 refine d_v [] rfl rfl (by kernel_rfl) (fun _ h => h) rfl rfl (qaz rfl rfl hx2 hp) ?_
 (repeat refine d_ ?_)
 refine zdk ⟨by kernel_rfl, by kernel_rfl⟩ rfl rfl (zak (zci _ _ _) (zaj rfl rfl rfl rfl rfl rfl (by omega))) fun _ => ?_
 have hs' : ∀ v, (c.setIfInBounds (1 + k / 64) v).size = 17 := fun v => by simp [hs]
 have hx' : ∀ v : Value, (c.setIfInBounds (1 + k / 64) v)[1 + k / 64]? = some v := fun v => Array.getElem?_setIfInBounds_self_of_lt (by omega)
 have h1' : ∀ y : Nat, zbz (c.setIfInBounds (1 + k / 64) (.int .u64 y)).toList = true := fun y => by
  rw [za4] at h1 ⊢
  intro v hv
  rcases Array.mem_or_eq_of_mem_setIfInBounds (Array.mem_toList_iff.1 hv) with h | h
  ·exact h1 v (Array.mem_toList_iff.2 h)
  ·rw [h]; rfl
 refine goA ?_
 refine zpi u rfl rfl (fun h => ?_) (fun h => ?_)
 ·refine goA ?_
  refine zzk 11 (by kernel_rfl) (fun _ h => h.drew) ?_
  (repeat first | (apply d_w [8] rfl rfl rfl (by kernel_rfl) (fun _ h => h); focus (first | exact zhd rfl | exact zez rfl | exact qd5 rfl rfl | exact zdy rfl rfl | exact zdi rfl rfl | exact zfu rfl rfl | exact zil rfl rfl | exact zey rfl rfl | exact qc5 rfl | exact zev rfl rfl (by repeat first | exact .head _ | apply List.Mem.tail) | exact zc6 rfl rfl (by repeat first | exact .head _ | apply List.Mem.tail) rfl | exact zd3 rfl rfl (by repeat first | exact .head _ | apply List.Mem.tail) | exact zpf rfl rfl rfl | ((first | refine qcl rfl rfl ?_ | refine zmj rfl rfl rfl ?_ | refine zpk rfl rfl rfl ?_ | refine qdl rfl rfl rfl ?_ | refine qep rfl rfl rfl ?_ | refine qe3 rfl rfl rfl ?_ | refine zoy rfl rfl rfl rfl ?_ | refine qfi rfl rfl rfl rfl ?_ | refine qdb rfl rfl rfl ?_ | refine qf3 rfl rfl rfl ?_); first | omega | assumption) | exact qc3 rfl rfl (by first | omega | assumption | (simp; done) | exact fun h => h (by assumption) | fail) | exact qf5 rfl rfl (by first | omega | assumption | (simp; done) | exact fun h => h (by assumption) | fail) | exact zgo rfl rfl rfl)) | refine qj8 [8] rfl rfl rfl (by kernel_rfl) (fun _ h => h) ?_ | refine d_T [8] rfl rfl rfl rfl (by first | omega | assumption | (simp; done) | exact fun h => h (by assumption) | fail) ?_ | refine d_F [8] rfl rfl rfl rfl (by first | omega | assumption | (simp; done) | exact fun h => h (by assumption) | fail) ?_)
  refine d_v [] rfl rfl (by kernel_rfl) (fun _ h => h) rfl rfl (zc6 rfl rfl (.head _) (hx' _)) ?_
  (repeat first | (apply d_w [8] rfl rfl rfl (by kernel_rfl) (fun _ h => h); focus (first | exact zhd rfl | exact zez rfl | exact qd5 rfl rfl | exact zdy rfl rfl | exact zdi rfl rfl | exact zfu rfl rfl | exact zil rfl rfl | exact zey rfl rfl | exact qc5 rfl | exact zev rfl rfl (by repeat first | exact .head _ | apply List.Mem.tail) | exact zc6 rfl rfl (by repeat first | exact .head _ | apply List.Mem.tail) rfl | exact zd3 rfl rfl (by repeat first | exact .head _ | apply List.Mem.tail) | exact zpf rfl rfl rfl | ((first | refine qcl rfl rfl ?_ | refine zmj rfl rfl rfl ?_ | refine zpk rfl rfl rfl ?_ | refine qdl rfl rfl rfl ?_ | refine qep rfl rfl rfl ?_ | refine qe3 rfl rfl rfl ?_ | refine zoy rfl rfl rfl rfl ?_ | refine qfi rfl rfl rfl rfl ?_ | refine qdb rfl rfl rfl ?_ | refine qf3 rfl rfl rfl ?_); first | omega | assumption) | exact qc3 rfl rfl (by first | omega | assumption | (simp; done) | exact fun h => h (by assumption) | fail) | exact qf5 rfl rfl (by first | omega | assumption | (simp; done) | exact fun h => h (by assumption) | fail) | exact zgo rfl rfl rfl)) | refine qj8 [8] rfl rfl rfl (by kernel_rfl) (fun _ h => h) ?_ | refine d_T [8] rfl rfl rfl rfl (by first | omega | assumption | (simp; done) | exact fun h => h (by assumption) | fail) ?_ | refine d_F [8] rfl rfl rfl rfl (by first | omega | assumption | (simp; done) | exact fun h => h (by assumption) | fail) ?_)
  simp only [hpe]
  refine d_v [] rfl rfl (by kernel_rfl) (fun _ h => h) rfl rfl (qnu rfl rfl (qnx _ hx2) hp) ?_
  (repeat refine d_ ?_)
  refine zdk ⟨by kernel_rfl, by kernel_rfl⟩ rfl rfl (zaj rfl rfl rfl rfl rfl rfl (by rw [hs']; omega)) fun _ => ?_
  refine goA ?_
  rw [Array.setIfInBounds_setIfInBounds]
  refine l_w rfl ((zd3 rfl (by rw [hs']; rfl) (.head _))) ?_
  refine za0 rfl (zak (zci _ _ _) (zai rfl rfl rfl (by rw [hs']; rfl) (h1' _) (hs' _))) fun _ => ?_
  refine goA ?_
  exact zc2 rfl ⟨_, rfl, zas (by rw [hs']; rfl) (.head _)⟩ (by rw [h]; rfl)
 ·refine goA ?_
  refine l_w rfl ((zd3 rfl (by rw [hs']; rfl) (.head _))) ?_
  refine za0 rfl (zak (zci _ _ _) (zai rfl rfl rfl (by rw [hs']; rfl) (h1' _) (hs' _))) fun _ => ?_
  refine goA ?_
  exact zc2 rfl ⟨_, rfl, zas (by rw [hs']; rfl) (.head _)⟩ (by rw [h]; rfl)
/-! ### Maps, by what is used -/
def qof (n : Nat) (S : Nat → Bool) : List Value := .int .i64 n :: (List.range 16).map (fun k => .int .u64 (zpw S k))
def zhm (n : Nat) (S : Nat → Bool) : Array Value := (qof n S).toArray
theorem za9 (n : Nat) (S : Nat → Bool) : (zhm n S).size = 17 := by simp [zhm, qof]
theorem zoa (n : Nat) (S : Nat → Bool) : (zhm n S)[0]? = some (.int .i64 n) := by simp [zhm, qof]
theorem zl6 (n : Nat) (S : Nat → Bool) {k : Nat} (hk : k < 16) : (zhm n S)[1 + k]? = some (.int .u64 (zpw S k)) := by
 simp only [zhm, qof, List.getElem?_toArray]
 rw [Nat.add_comm, List.getElem?_cons_succ, List.getElem?_map, List.getElem?_range hk]
 rfl
theorem zex (n : Nat) (S : Nat → Bool) : zbz (zhm n S).toList = true := by
 rw [za4]
 intro v hv
 simp only [zhm, qof, List.mem_cons, List.mem_map] at hv
 rcases hv with rfl | ⟨_, _, rfl⟩ <;> rfl
theorem qjd (n : Nat) (S : Nat → Bool) {k : Nat} (u : Bool) (hk : k < 1024) : (zhm n S).setIfInBounds (1 + k / 64) (.int .u64 (qmw (zpw S (k / 64)) (k % 64) u)) = zhm n (upd S k u) := by
 refine Array.ext_getElem? fun i => ?_
 rw [Array.getElem?_setIfInBounds]
 have h16 : k / 64 < 16 := by omega
 have hw : qmw (zpw S (k / 64)) (k % 64) u = zpw (upd S k u) (k / 64) := by
  rw [qel _ _ _ _ (by omega), show 64 * (k / 64) + k % 64 = k by omega]
 by_cases e : 1 + k / 64 = i
 ·subst e
  rw [if_pos rfl, if_pos (by rw [za9]; omega), zl6 _ _ h16, hw]
 ·rw [if_neg e]
  by_cases h0 : i = 0
  ·subst h0; rw [zoa, zoa]
  ·by_cases h17 : i < 17
   ·obtain ⟨q, rfl⟩ : ∃ q, i = 1 + q := ⟨i - 1, by omega⟩
    rw [zl6 _ _ (by omega), zl6 _ _ (by omega), zqq _ _ _ _ (by omega)]
   ·rw [Array.getElem?_eq_none (by rw [za9]; omega), Array.getElem?_eq_none (by rw [za9]; omega)]
theorem qfu : zhm 0 (fun _ => false) = #[.int .i64 0, .int .u64 0, .int .u64 0, .int .u64 0, .int .u64 0, .int .u64 0, .int .u64 0, .int .u64 0, .int .u64 0, .int .u64 0, .int .u64 0, .int .u64 0, .int .u64 0, .int .u64 0, .int .u64 0, .int .u64 0, .int .u64 0] := by rfl
def onB (n : Nat) (i : Int) : Bool := decide (0 ≤ i) && decide (i < n)
def qcm (n : Nat) (S : Nat → Bool) (i : Int) (u : Bool) : Nat → Bool := bif onB n i then upd S i.toNat u else S
theorem zmg (n : Nat) (S : Nat → Bool) (i : Int) (u : Bool) (hn : n ≤ 1024) (w : World) :
  Pu Tryz.prog 59 #[.agg (zhm n S), .int .i64 i, .bool u] w (.agg (zhm n (qcm n S i u))) := by
 by_cases h : onB n i = true
 ·have h' := h
  simp only [onB, Bool.and_eq_true, decide_eq_true_eq] at h'
  obtain ⟨k, rfl⟩ := Int.eq_ofNat_of_zero_le h'.1
  have := qnc (zhm n S) n k u w (zoa n S) (za9 n S) (zex n S) (by omega) hn (zpw S (k / 64)) (zl6 n S (by omega)) (zxe S _)
  rw [qjd n S u (by omega)] at this
  simp only [qcm, h, cond_true, Int.toNat_natCast]
  exact this
 ·have h : onB n i = false := by simpa using h
  have := qmq (zhm n S) n i u w (zoa n S) (za9 n S) (zex n S) h
  simp only [qcm, h, cond_false]
  exact this
theorem qdt (n : Nat) (h : 1 ≤ n) (h' : n ≤ 1024) (w : World) : Pu Tryz.prog 74 #[.int .i64 n] w (.tuple #[.agg (zhm n (fun _ => false)), .int .i64 0]) := by
 refine zbl [_] Tryz.func74 rfl rfl ?_
 simp only [zaa]
 refine goA ?_
 refine zan rfl rfl fun b hb => ?_
 refine goA ?_
 refine za0 rfl (zai rfl rfl rfl rfl rfl rfl) fun _ => ?_
 refine goA ?_
 exact zg8 rfl ⟨_, rfl, zas rfl (.head _)⟩ rfl rfl
theorem qii (S : Nat → Bool) (k : Nat) : Value.bool (((zpw S (k / 64) / 2 ^ (k % 64) % 2 : Nat) : Int) == 1) = .bool (S k) := by
 have h := zin S (k / 64) (k % 64) (by omega)
 rw [show 64 * (k / 64) + k % 64 = k by omega, Nat.testBit_eq_decide_div_mod_eq] at h
 rw [← h]
 congr 1
 rw [Bool.eq_iff_iff]
 simp only [beq_iff_eq, decide_eq_true_eq]
 generalize zpw S (k / 64) / 2 ^ (k % 64) = q
 omega
theorem qlr (n : Nat) (S : Nat → Bool) (i : Int) (h : onB n i = false) (w : World) : Pu Tryz.prog 56 #[.agg (zhm n S), .int .i64 i] w (.bool true) := by
 refine zbl [_, _] Tryz.func56 rfl rfl ?_
 simp only [zaa, Nat.reduceAdd]
 refine goA ?_
 refine zb0 rfl rfl fun b hb => ?_
 refine goA ?_
 refine zae rfl (zag rfl (by kernel_rfl) rfl (fun w _ => zvm _ n i w (zoa n S))) fun _ => ?_
 refine zdc 7 _ (.bool false) rfl (congrArg Value.bool h) ?_
 refine goA ?_
 exact zc2 rfl rfl rfl
theorem qj5 (n : Nat) (S : Nat → Bool) (k : Nat) (h : k < n) (hn : n ≤ 1024) (w : World) : Pu Tryz.prog 56 #[.agg (zhm n S), .int .i64 k] w (.bool (S k)) := by
 refine zbl [_, _] Tryz.func56 rfl rfl ?_
 simp only [zaa, Nat.reduceAdd]
 refine goA ?_
 refine zb0 rfl rfl fun b hb => ?_
 refine goA ?_
 refine zae rfl (zag rfl (by kernel_rfl) rfl (fun w _ => zvm _ n k w (zoa n S))) fun _ => ?_
 refine zdc 7 _ (.bool true) rfl (by simp; omega) ?_
 have hk : k / 64 < 16 := by omega
 refine goA ?_
 refine l_w rfl ((zc6 rfl rfl (.head _) (zl6 n S hk))) ?_
 refine goA ?_
 refine l_w rfl (qer rfl rfl) ?_
 refine goA ?_
 refine zc2 rfl rfl ?_
 rw [qii S k]
def qk7 (n : Nat) (S : Nat → Bool) (i : Int) : Bool := !onB n i || S i.toNat
theorem zrt (n : Nat) (S : Nat → Bool) (i : Int) (hn : n ≤ 1024) (w : World) : Pu Tryz.prog 56 #[.agg (zhm n S), .int .i64 i] w (.bool (qk7 n S i)) := by
 by_cases h : onB n i = true
 ·have h' := h
  simp only [onB, Bool.and_eq_true, decide_eq_true_eq] at h'
  obtain ⟨k, rfl⟩ := Int.eq_ofNat_of_zero_le h'.1
  have := qj5 n S k (by omega) hn w
  simp only [qk7, h, Bool.not_true, Bool.false_or, Int.toNat_natCast]
  exact this
 ·have h : onB n i = false := by simpa using h
  have := qlr n S i h w
  simp only [qk7, h, Bool.not_false, Bool.true_or]
  exact this
end Go.Proofs.YtkkfifhaobjicaaGreatDoor
