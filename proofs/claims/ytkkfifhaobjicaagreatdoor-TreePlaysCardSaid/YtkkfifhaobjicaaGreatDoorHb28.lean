/- Contracts of package bits, the second part. -/
/- Contracts of package bits, the third part: the map of a page. -/
/- maps.Keys of a map keyed by whole numbers; slices.Collect of its keys. -/
/- slices.AppendSeq and slices.Collect of whole numbers; maps.Keys. -/
/- package pages: a store in memory; its small functions. -/
import Derived.Test.YtkkfifhaobjicaaGreatDoorHb27
import Derived.Test.YtkkfifhaobjicaaGreatDoorHb26
import Derived.Test.YtkkfifhaobjicaaGreatDoorHb15
import Derived.Test.YtkkfifhaobjicaaGreatDoorChecked
namespace Go.Proofs.YtkkfifhaobjicaaGreatDoor
open Go.RowKit Go.Eng Go.Eng.Bm
set_option maxRecDepth 100000
set_option maxHeartbeats 40000000
/-! ### Used -/
def qd4 (n : Nat) (S : Nat → Bool) : Array Value := (zhm n S).extract 1 17
theorem qe4 (n : Nat) (S : Nat → Bool) {k : Nat} (hk : k < 16) : (qd4 n S)[k]? = some (.int .u64 (zpw S k)) := by
 unfold qd4
 rw [Array.getElem?_extract, if_pos (by rw [za9]; omega), zl6 n S hk]
/-! ### The least bit -/
structure qa1 (w : World) : Prop where
 obj : w.heap[0]? = some (.cells (tab64.map fun n : Nat => Value.int .u8 n).toArray 173 (0, 0))
theorem qa1.at_ {w : World} (h : qa1 w) (j : Nat) (hj : j < 64) : w.cell? ⟨0, j, none⟩ = some (.int .u8 (tab64.getD j 0 : Nat)) := by
 have := za7 h.obj j (.int .u8 (tab64.getD j 0 : Nat)) (by
  rw [List.getElem?_map, List.getD_eq_getElem?_getD, List.getElem?_eq_getElem (show j < tab64.length from hj)]; rfl)
 rwa [Nat.zero_add] at this
theorem qa1.keep {w0 w : World} {m : List Eng.Item} (h : qa1 w0) (hw : Hp w0 none' m w) : qa1 w := ⟨(hw.fr.block _ (Array.getElem?_eq_some_iff.1 h.obj).1 (fun h => h)).trans h.obj⟩
theorem qip (x t : Nat) (hx : x < 18446744073709551616) (ht : x.testBit t = true) (hl : ∀ j, j < t → x.testBit j = false) (w : World) (hw : qa1 w) : Pu Tryz.prog 57 #[.int .u64 x] w (.int .i64 t) := by
 have h0 : 0 < x := by
  rcases Nat.eq_zero_or_pos x with h | h
  ·subst h; simp at ht
  ·exact h
 have ht64 : t < 64 := by
  rcases Nat.lt_or_ge t 64 with h | h
  ·exact h
  ·have : x.testBit t = false := Nat.testBit_lt_two_pow (Nat.lt_of_lt_of_le hx (Nat.pow_le_pow_right (n := 2) (i := 64) (by decide) h))
   rw [this] at ht; cases ht
 have hn := qmg hx ht hl
 obtain ⟨t1, t2⟩ := qog t ht64
 refine zbl [_] Tryz.func57 rfl rfl ?_
 simp only [zaa]
 refine goA ?_
 refine l_w rfl ((qk0 rfl h0 hx)) ?_
 refine l_w rfl ((qml rfl rfl hx)) ?_
 refine zdc 8 _ (.int .u64 (2 ^ t : Nat)) rfl (by rw [hn]) ?_
 refine l_w rfl ((qla rfl rfl)) ?_
 refine l_w rfl ((qhm rfl rfl (by decide))) ?_
 refine zdc 10 _ (.int .u64 (zyy t : Nat)) rfl rfl ?_
 refine l_w rfl ((qej rfl rfl rfl t1)) ?_
 refine l_w rfl ((zaz (v := .int .u8 t) rfl rfl fun w' hw' => ?_)) ?_
 ·have := (hw.keep hw').at_ (zyy t) t1
  rw [t2] at this
  simpa using this
 refine goA ?_
 exact zc2 rfl rfl rfl
theorem qkv (w : World) : Pu Tryz.prog 57 #[.int .u64 0] w (.int .i64 64) := by
 refine zbl [_] Tryz.func57 rfl rfl ?_
 simp only [zaa]
 refine goA ?_
 exact zc2 rfl rfl rfl
/-! ### Find -/
theorem qbq (n : Nat) (S : Nat → Bool) (a : Nat) (hn : n ≤ 1024) (ha : a < n) (hS : S a = false) (hl : ∀ j, j < a → S j = true) (w : World) (hw : qa1 w) :
  Pu Tryz.prog 31 #[.agg (zhm n S)] w (.tuple #[.int .i64 a, .bool true]) := by
 refine zbl [_] Tryz.func31 rfl rfl ?_
 simp only [zaa]
 refine goA ?_
 refine zb0 rfl rfl fun b hb => ?_
 refine goA ?_
 refine l_w rfl ((qf2 (n := 16) rfl rfl (.head _) (by rw [za9]; omega))) ?_
 refine goA ?_
 refine zct (α := Nat) (fun k => [(1, .pointer (some ⟨b, 0, none⟩)), (9, .int .i64 k), (8, .agg (qd4 n S))]) (fun k => k ≤ a / 64) (fun _ => [pt b (.cells (zhm n S) 82 (0, 0))]) (fun k => 16 - k) 0 ⟨rfl, rfl, rfl, trivial⟩ (Nat.zero_le _) (fun _ h => h) fun k hk => ?_
 refine goA ?_
 have hk' : k < 16 := by omega
 have hwl := zxe S k
 refine goA ?_
 refine l_w rfl ((qds rfl rfl rfl rfl rfl hk' (qe4 n S hk'))) ?_
 refine goA ?_
 refine l_w rfl (qmn rfl hwl) ?_
 refine goA ?_
 by_cases hka : k = a / 64
 ·have htz := qip (18446744073709551615 ^^^ zpw S k) (a % 64) (Nat.xor_lt_two_pow (n := 64) (by decide) hwl) (by rw [qat S k _ (by omega), show 64 * k + a % 64 = a by omega, hS]; rfl) (fun j hj => by rw [qat S k _ (by omega), hl _ (by omega)]; rfl)
  have hnf : zpw S k ≠ 18446744073709551615 := zwd (j := a % 64) (by omega) (by rw [show 64 * k + a % 64 = a by omega, hS])
  refine zae rfl (zag rfl (by kernel_rfl) rfl (fun w' hw' => htz w' (hw.keep hw'))) fun _ => ?_
  refine l_w rfl ((qpl rfl rfl (by omega))) ?_
  refine zdc 18 _ (.int .i64 a) rfl (by rw [show k * 64 + a % 64 = a by omega]) ?_
  refine goA ?_
  refine zdc 21 _ (.bool true) rfl (by congr 1) ?_
  refine goA ?_
  refine zae rfl (zag rfl (by kernel_rfl) rfl (fun w' _ => zvm _ n a w' (zoa n S))) fun _ => ?_
  refine zdc 24 _ (.bool true) rfl (by simp; omega) ?_
  refine goA ?_
  exact zg8 rfl rfl rfl rfl
 ·have hf := qfn (S := S) (k := k) (fun j hj => hl _ (by omega))
  rw [hf]
  refine zae rfl (zag rfl (by kernel_rfl) rfl (fun w' hw' => qkv w')) fun _ => ?_
  refine goA ?_
  exact zay (k + 1) ⟨rfl, rfl, rfl, trivial⟩ (by omega) (fun _ h => h) (by omega)
/-! ### Bytes -/
def zgv (S : Nat → Bool) (k : Nat) : Array Value := ((List.range 512).map fun j => Value.int .u8 (byte (zdm S k) j : Nat)).toArray
theorem zgk (S : Nat → Bool) (k : Nat) : (zgv S k).size = 512 := by simp [zgv]
theorem zhi (S : Nat → Bool) (k : Nat) {j : Nat} (hj : j < 512) : (zgv S k)[j]? = some (.int .u8 (byte (zdm S k) j : Nat)) := by
 simp only [zgv, List.getElem?_toArray]
 rw [List.getElem?_map, List.getElem?_range hj]; rfl
theorem zxo (S : Nat → Bool) : zgv S 0 = Array.replicate 512 (.int .u8 0) := by
 refine Array.ext_getElem? fun j => ?_
 by_cases hj : j < 512
 ·rw [zhi S 0 hj]
  have : byte (zdm S 0) j = 0 := by
   refine Nat.eq_of_testBit_eq fun i => ?_
   unfold byte; rw [zcr]; simp [zdm]
  rw [this]; simp [hj]
 ·rw [Array.getElem?_eq_none (by rw [zgk]; omega), Array.getElem?_eq_none (by simp; omega)]
theorem qfo (S : Nat → Bool) (k : Nat) (h : S k = false) : zgv S (k + 1) = zgv S k := by
 exact congrArg List.toArray (List.map_congr_left fun j _ => by rw [zvn S k j (.inr h)])
theorem qa8 (S : Nat → Bool) (k : Nat) (hk : k < 4096) (h : S k = true) : (zgv S k).setIfInBounds (k / 8) (.int .u8 (byte (zdm S k) (k / 8) ||| 2 ^ (k % 8) : Nat)) = zgv S (k + 1) := by
 refine Array.ext_getElem? fun j => ?_
 rw [Array.getElem?_setIfInBounds]
 by_cases e : k / 8 = j
 ·subst e
  rw [if_pos rfl, if_pos (by rw [zgk]; omega), zhi _ _ (by omega), qlj S k h]
 ·rw [if_neg e]
  by_cases hj : j < 512
  ·rw [zhi _ _ hj, zhi _ _ hj, zvn S k j (.inl (Ne.symm e))]
  ·rw [Array.getElem?_eq_none (by rw [zgk]; omega), Array.getElem?_eq_none (by rw [zgk]; omega)]
theorem znh (n : Nat) (S : Nat → Bool) (hn : n ≤ 1024) (w : World) :
  Ct Tryz.prog 60 #[.agg (zhm n S)] w none' (α := Nat) (fun c => .slice (some ⟨c, 0, none⟩) 512 512) (fun _ => True) (fun c => [pt c (.cells (zgv S n) 5 (0, 0))]) := by
 refine zfo [_] Tryz.func60 rfl rfl ?_
 simp only [zaa]
 refine goA ?_
 refine zb0 rfl rfl fun b hb => ?_
 refine goA ?_
 refine qjj rfl rfl rfl rfl rfl rfl (by decide) (by decide) fun c hc => ?_
 refine goA ?_
 refine zct (α := Nat) (fun k => [(1, .pointer (some ⟨b, 0, none⟩)), (7, .int .i64 n), (8, .int .i64 k), (3, .slice (some ⟨c, 0, none⟩) 512 512)]) (fun k => k ≤ n) (fun k => [pt c (.cells (zgv S k) 5 (0, 0)), pt b (.cells (zhm n S) 82 (0, 0))]) (fun k => n - k) 0 ⟨rfl, rfl, rfl, rfl, trivial⟩ (Nat.zero_le _) (fun _ h => by rw [zxo]; exact h) fun k hk => ?_
 refine goA ?_
 refine zpi _ rfl rfl (fun h => ?_) (fun h => ?_)
 ·have hk' : k < n := by simp at h; omega
  refine goA ?_
  refine zae rfl (zag rfl (by kernel_rfl) rfl (fun w' _ => qj5 n S k hk' hn w')) fun _ => ?_
  refine goA ?_
  refine zpi _ rfl rfl (fun hS => ?_) (fun hS => ?_)
  ·refine goA ?_
   have hk8 : k / 8 < 512 := by omega
   have hb8 := qex (zdm S k) (k / 8)
   have hp8 : 2 ^ (k % 8) < 256 := Nat.pow_lt_pow_right (n := 8) (by decide) (by omega)
   have hpe : 1 * 2 ^ (k % 8) % 256 = 2 ^ (k % 8) := by rw [Nat.one_mul, Nat.mod_eq_of_lt hp8]
   refine zzk 10 (by kernel_rfl) (fun _ h => h.drew) ?_
   (repeat refine d_ ?_)
   refine d_v [] rfl rfl (by kernel_rfl) (fun _ h => h) rfl rfl (zc6 rfl rfl (.head _) (by rw [Nat.zero_add]; exact zhi S k hk8)) ?_
   (repeat first | (apply d_w [8] rfl rfl rfl (by kernel_rfl) (fun _ h => h); focus (first | exact zhd rfl | exact zez rfl | exact qd5 rfl rfl | exact zdy rfl rfl | exact zdi rfl rfl | exact zfu rfl rfl | exact zil rfl rfl | exact zey rfl rfl | exact qc5 rfl | exact zev rfl rfl (by repeat first | exact .head _ | apply List.Mem.tail) | exact zc6 rfl rfl (by repeat first | exact .head _ | apply List.Mem.tail) rfl | exact zd3 rfl rfl (by repeat first | exact .head _ | apply List.Mem.tail) | exact zpf rfl rfl rfl | ((first | refine qcl rfl rfl ?_ | refine zmj rfl rfl rfl ?_ | refine zpk rfl rfl rfl ?_ | refine qdl rfl rfl rfl ?_ | refine qep rfl rfl rfl ?_ | refine qe3 rfl rfl rfl ?_ | refine zoy rfl rfl rfl rfl ?_ | refine qfi rfl rfl rfl rfl ?_ | refine qdb rfl rfl rfl ?_ | refine qf3 rfl rfl rfl ?_); first | omega | assumption) | exact qc3 rfl rfl (by first | omega | assumption | (simp; done) | exact fun h => h (by assumption) | fail) | exact qf5 rfl rfl (by first | omega | assumption | (simp; done) | exact fun h => h (by assumption) | fail) | exact zgo rfl rfl rfl)) | refine qj8 [8] rfl rfl rfl (by kernel_rfl) (fun _ h => h) ?_ | refine d_T [8] rfl rfl rfl rfl (by first | omega | assumption | (simp; done) | exact fun h => h (by assumption) | fail) ?_ | refine d_F [8] rfl rfl rfl rfl (by first | omega | assumption | (simp; done) | exact fun h => h (by assumption) | fail) ?_)
   simp only [hpe]
   refine d_v [] rfl rfl (by kernel_rfl) (fun _ h => h) rfl rfl (qpx rfl rfl hb8 hp8) ?_
   (repeat refine d_ ?_)
   refine zdk ⟨by kernel_rfl, by kernel_rfl⟩ rfl rfl (zaj rfl rfl rfl rfl rfl rfl (by rw [zgk]; omega)) fun _ => ?_
   refine goA ?_
   exact zay (k + 1) ⟨rfl, rfl, rfl, rfl, trivial⟩ (by omega) (fun _ h => by rw [Nat.zero_add, qa8 S k (by omega) hS] at h; exact h) (by omega)
  ·refine goA ?_
   exact zay (k + 1) ⟨rfl, rfl, rfl, rfl, trivial⟩ (by omega) (fun _ h => by rw [qfo S k hS]; exact h) (by omega)
 ·obtain rfl : k = n := by simp at h; omega
  refine goA ?_
  refine zbw c rfl rfl rfl trivial (by simp) (fun it hm => ?_)
  obtain rfl : it = pt c (.cells (zgv S k) 5 (0, 0)) := by simpa using hm
  exact zac _ _ _
abbrev noS : Nat → Bool := fun _ => false
def zg2 (bs : Nat → Nat) : Nat → Bool := fun i => (bs (i / 8)).testBit (i % 8)
theorem qgi (bs : Nat → Nat) {i k : Nat} (hk : k < 8) : ((((bs i) / 2 ^ k % 2 : Nat) : Int) == 0) = !zg2 bs (8 * i + k) := by
 unfold zg2
 rw [show (8 * i + k) / 8 = i by omega, show (8 * i + k) % 8 = k by omega, Nat.testBit_eq_decide_div_mod_eq, Bool.eq_iff_iff]
 generalize bs i / 2 ^ k = q
 simp
 omega
theorem qgr (f : Nat → Bool) (k : Nat) (h : f k = true) : upd (zdm f k) k true = zdm f (k + 1) := funext fun j => by
 unfold upd zdm
 by_cases e : j = k
 ·subst e; simp [h]
 ·by_cases h2 : j < k
  ·simp [e, h2, Nat.lt_succ_of_lt h2]
  ·simp only [if_neg e, h2, decide_false, Bool.false_and, show ¬ j < k + 1 by omega]
theorem qho (f : Nat → Bool) (k : Nat) (h : f k = false) : zdm f k = zdm f (k + 1) := funext fun j => by
 unfold zdm
 by_cases e : j = k
 ·subst e; simp [h]
 ·by_cases h2 : j < k
  ·simp [h2, Nat.lt_succ_of_lt h2]
  ·simp only [h2, decide_false, Bool.false_and, show ¬ j < k + 1 by omega]
theorem qa9 (f : Nat → Bool) : zdm f 0 = fun _ => false := funext fun j => by simp [zdm]
theorem qie (ba off cap : Nat) (bs : Nat → Nat) (n : Nat) (h1 : 1 ≤ n) (h2 : n ≤ 1024) (w : World) (hbs : ∀ i, i < 512 → w.cell? ⟨ba, off + i, none⟩ = some (.int .u8 (bs i : Nat))) (hf : ∀ j, j < 4096 → zg2 bs j = true → j < n) :
  Pu Tryz.prog 55 #[.slice (some ⟨ba, off, none⟩) 512 cap, .int .i64 n] w (.tuple #[.agg (zhm n (zdm (zg2 bs) 4096)), .int .i64 0]) := by
 refine zbl [_, _] Tryz.func55 rfl rfl ?_
 simp only [zaa, Nat.reduceAdd]
 refine goA ?_
 refine zan rfl rfl fun b hb => ?_
 refine goA ?_
 refine zae rfl (zag rfl (by kernel_rfl) rfl (fun w' _ => qdt n h1 h2 w')) fun _ => ?_
 refine goA ?_
 refine zan rfl rfl fun b2 hb2 => ?_
 refine za0 rfl (zai rfl rfl rfl (by rw [za9]; rfl) (zex _ _) (by rw [za9]; rfl)) fun _ => ?_
 refine goA ?_
 refine zct (α := Nat) (fun i => [(1, .int .i64 n), (4, .pointer (some ⟨b, 0, none⟩)), (6, .pointer (some ⟨b2, 0, none⟩)), (25, .slice (some ⟨ba, off, none⟩) 512 cap), (26, .int .i64 512), (27, .int .i64 i)]) (fun i => i ≤ 512) (fun i => [pt b2 (.cells (zhm n (zdm (zg2 bs) (8 * i))) 82 (0, 0)), pt b (.cells (zhm 0 noS) 82 (0, 0))]) (fun i => 512 - i) 0 ⟨rfl, rfl, rfl, rfl, rfl, rfl, trivial⟩ (Nat.zero_le _) (fun _ h => by rw [Nat.mul_zero, qa9, qfu]; exact h) fun i hi => ?_
 refine goA ?_
 refine zpi _ rfl rfl (fun h => ?_) (fun h => ?_)
 ·have hi' : i < 512 := by simp at h; omega
  refine goA ?_
  refine l_w rfl ((zet rfl rfl (fun h => h) (hbs i hi'))) ?_
  refine goA ?_
  refine zct (α := Nat) (fun k => [(1, .int .i64 n), (4, .pointer (some ⟨b, 0, none⟩)), (6, .pointer (some ⟨b2, 0, none⟩)), (25, .slice (some ⟨ba, off, none⟩) 512 cap), (26, .int .i64 512), (27, .int .i64 i), (8, .int .i64 i), (9, .int .u8 (bs i : Nat)), (32, .int .i64 k)]) (fun k => k ≤ 8) (fun k => [pt b2 (.cells (zhm n (zdm (zg2 bs) (8 * i + k))) 82 (0, 0)), pt b (.cells (zhm 0 noS) 82 (0, 0))]) (fun k => 8 - k) 0 ⟨rfl, rfl, rfl, rfl, rfl, rfl, rfl, rfl, rfl, trivial⟩ (Nat.zero_le _) (fun _ h => by rw [Nat.add_zero]; exact h) fun k hk => ?_
  refine goA ?_
  refine zpi _ rfl rfl (fun h => ?_) (fun h => ?_)
  ·have hk' : k < 8 := by simp at h; omega
   refine goA ?_
   refine l_w rfl (qhu rfl rfl) ?_
   refine goA ?_
   refine zpi _ rfl rfl (fun h => ?_) (fun h => ?_)
   ·have hb0 : zg2 bs (8 * i + k) = false := by
     have := qgi bs (i := i) hk'
     rw [show (((bs i / 2 ^ k % 2 : Nat) : Int) == 0) = true from h] at this
     simpa using this.symm
    refine goA ?_
    exact zay (k + 1) ⟨rfl, rfl, rfl, rfl, rfl, rfl, rfl, rfl, rfl, trivial⟩ (by omega) (fun _ h => by rw [← Nat.add_assoc, ← qho _ _ hb0]; exact h) (by omega)
   ·have hb1 : zg2 bs (8 * i + k) = true := by
     have := qgi bs (i := i) hk'
     rw [show (((bs i / 2 ^ k % 2 : Nat) : Int) == 0) = false from h] at this
     simpa using this.symm
    have hlt := hf (8 * i + k) (by omega) hb1
    refine goA ?_
    refine zae rfl (zag rfl (by kernel_rfl) rfl (fun w' _ => zmg n _ _ true h2 w')) fun _ => ?_
    have hset : qcm n (zdm (zg2 bs) (8 * i + k)) ((8 * i + k : Nat) : Int) true = zdm (zg2 bs) (8 * i + k + 1) := by
     unfold qcm onB
     rw [decide_eq_true (show (0 : Int) ≤ ((8 * i + k : Nat) : Int) by omega), decide_eq_true (show ((8 * i + k : Nat) : Int) < (n : Int) by omega)]
     simp only [Bool.and_self, cond_true, Int.toNat_natCast]
     exact qgr _ _ hb1
    rw [hset]
    refine za0 rfl (zai rfl rfl rfl (by rw [za9]; rfl) (zex _ _) (by rw [za9, za9])) fun _ => ?_
    refine goA ?_
    exact zay (k + 1) ⟨rfl, rfl, rfl, rfl, rfl, rfl, rfl, rfl, rfl, trivial⟩ (by omega) (fun _ h => h) (by omega)
  ·obtain rfl : k = 8 := by simp at h; omega
   refine goA ?_
   exact zay (i + 1) ⟨rfl, rfl, rfl, rfl, rfl, rfl, trivial⟩ (by omega) (fun _ h => h) (by omega)
 ·obtain rfl : i = 512 := by simp at h; omega
  refine goA ?_
  refine za0 rfl (zak (zci _ _ _) (zai rfl rfl rfl (by rw [za9]; rfl) (zex _ _) (by rw [za9, za9]))) fun _ => ?_
  refine goA ?_
  exact zg8 rfl ⟨_, rfl, zas (by rw [za9]; rfl) (.head _)⟩ rfl rfl
end Go.Proofs.YtkkfifhaobjicaaGreatDoor
namespace Go.Proofs.YtkkfifhaobjicaaGreatDoor
open Go.RowKit Go.Eng
set_option maxRecDepth 100000
set_option maxHeartbeats 40000000
def kyI (x : Nat) (b : Nat) (A : zck) : List Eng.Item := [pt x (.cells #[.map (some b)] 91 (0, 0)), zd6 .i64 b A]
theorem zmp (x b : Nat) (A : zck) : ∀ it ∈ kyI x b A, it.Stable none' := by simp [kyI, zac, za6]
def zo8 (A : zck) : List Nat := A.map (·.1)
theorem zyd {b : Nat} {q : IntKind} {A : zck} {w : World} (h : (zd6 q b A).prop w) : (zo8 A).Nodup := by
 obtain ⟨es, clk, -, R⟩ := h
 exact R.nodup
theorem zq8 {A : zck} {k : List Nat} {L : zck} (hL : L = A.filter fun x => decide (x.1 ∉ k)) (p : Nat × Value) : qcr L p = A.filter fun x => decide (x.1 ∉ k ++ [p.1]) := by
 subst hL
 unfold qcr
 rw [List.filter_filter]
 refine List.filter_congr fun x _ => ?_
 by_cases h1 : x.1 = p.1 <;> by_cases h2 : x.1 ∈ k <;> simp [h1, h2]
abbrev kyE (A : zck) : List Nat → Nat → Prop := fun k x => (k ++ [x]).Nodup ∧ ∀ y ∈ k ++ [x], y ∈ zo8 A
abbrev kyS (A : zck) : List Nat → Prop := fun k => k.Perm (zo8 A)
theorem qfq (x b : Nat) (A : zck) : qf0 Tryz.prog 166 [.pointer (some ⟨x, 0, none⟩)] (kyI x b A) [zd6 .i64 b A] (kyE A) (kyS A) (fun n => [.int .i64 (n : Int)]) := by
 simp only [kyI]
 refine qhy [_] _ _ _ _ _ Tryz.func166 rfl rfl ?_
 intro σ ly Y I J s0 w hst h0 hy
 simp only [zaa]
 refine zf2 (fun w hw => zyd (hw.item (zd6 .i64 b A) (by simp)).1) fun hnd => ?_
 refine goA ?_
 refine za1 [2, 0, 1] rfl rfl ?_
 refine za0 rfl (zzr rfl rfl rfl) fun ⟨r, hr⟩ => ?_
 refine goA ?_
 refine zct (α := zck × List Nat × Option (Nat × Value) × σ) (fun y => [(0, .func (.yield ly) #[] #[]), (1, .pointer (some ⟨x, 0, none⟩)), (5, .pointer (some ⟨r, 0, none⟩))]) (fun y => y.1 = A.filter (fun x => decide (x.1 ∉ y.2.1)) ∧ y.2.1.Nodup ∧ (∀ z ∈ y.2.1, z ∈ zo8 A) ∧ I y.2.1 y.2.2.2) (fun y => [itN .i64 r b A y.1 y.2.2.1, Y y.2.2.2]) (fun y => y.1.length) (A, [], none, s0) ⟨rfl, rfl, rfl, trivial⟩ ⟨by show A = A.filter (fun x => decide (x.1 ∉ ([] : List Nat))); exact (List.filter_eq_self.2 fun _ _ => by simp).symm, List.nodup_nil, ⟨(fun _ (h : _ ∈ ([] : List Nat)) => nomatch h), h0⟩⟩ (fun w h => h.sub (.cons_cons _ (.cons_cons _ (List.nil_sublist _)))) fun ⟨L, k, c, st⟩ ⟨hL, hk, hkA, hI⟩ => ?_
 simp only at hL hk hkA hI ⊢
 refine goA ?_
 refine za0 rfl (qdv rfl rfl) fun ⟨y, hyy⟩ => ?_
 cases y with
 | none =>
  simp only at hyy ⊢
  refine goA ?_
  subst hyy
  have hS : kyS A k := by
   refine (List.perm_ext_iff_of_nodup hk hnd).2 fun z => ⟨hkA z, fun hz => ?_⟩
   obtain ⟨p, hp, rfl⟩ := List.mem_map.1 hz
   by_cases h : p.1 ∈ k
   ·exact h
   ·have : p ∈ A.filter (fun x => decide (x.1 ∉ k)) := List.mem_filter.2 ⟨hp, by simpa using h⟩
    rw [← hL] at this
    exact nomatch this
  refine zb3 (m' := [Y st, zd6 .i64 b A]) (fun w' hw' => (zw2 hw').pick [1, 0] rfl rfl) (qhw st rfl (.inl ⟨k, hS, hI⟩) ?_ (.refl _))
  intro it hm
  rcases hm with _ | ⟨_, _ | ⟨_, hm⟩⟩
  ·exact hst st
  ·exact za6 _ _ _ _
  ·exact nomatch hm
 | some p =>
  simp only at hyy ⊢
  have hpk : p.1 ∉ k ∧ p ∈ A := by
   rw [hL] at hyy
   obtain ⟨h1, h2⟩ := List.mem_filter.1 hyy
   exact ⟨by simpa using h2, h1⟩
  have hE : kyE A k p.1 := by
   refine ⟨?_, fun z hz => ?_⟩
   ·rw [List.nodup_append]
    refine ⟨hk, by simp, fun a ha b hb => ?_⟩
    rw [List.mem_singleton] at hb
    subst hb
    exact fun e => hpk.1 (e ▸ ha)
   ·rcases List.mem_append.1 hz with hz | hz
    ·exact hkA z hz
    ·rw [List.mem_singleton] at hz
     subst hz
     exact List.mem_map.2 ⟨p, hpk.2, rfl⟩
  have hlt := zzs hyy
  have hof := zq8 hL p
  refine goA ?_
  refine l_w rfl (qar rfl (.head _)) ?_
  refine goA ?_
  refine za1 [1, 0] rfl rfl ?_
  refine qc4 rfl rfl rfl rfl (hst st) (hy k p.1 st hE hI) fun bb s' hR => ?_
  rcases hR with ⟨rfl, h8⟩ | ⟨rfl, h8⟩
  ·refine goA ?_
   exact zay (qcr L p, k ++ [p.1], some p, s') ⟨rfl, rfl, rfl, trivial⟩ ⟨hof, hE.1, hE.2, h8⟩ (fun w hw => hw.pick [1, 0] rfl rfl) hlt
  ·refine goA ?_
   refine zb3 (m' := [Y s', zd6 .i64 b A]) (fun w' hw' => (zw2 (hw'.pick [1, 0] rfl rfl)).pick [1, 0] rfl rfl) (qkm s' rfl (.inr h8) ?_ (.refl _))
   intro it hm
   rcases hm with _ | ⟨_, _ | ⟨_, hm⟩⟩
   ·exact hst s'
   ·exact za6 _ _ _ _
   ·exact nomatch hm
end Go.Proofs.YtkkfifhaobjicaaGreatDoor
namespace Go.Proofs.YtkkfifhaobjicaaGreatDoor
open Go.RowKit Go.Eng
set_option maxRecDepth 100000
set_option maxHeartbeats 40000000
def zfn (L : List Nat) : List Value := L.map fun n : Nat => Value.int .i64 (n : Int)
def aiB (b : Nat) (y : Option (Nat × Nat) × List Nat) : List Eng.Item := [own 3 1 y.1 y.2.length (zfn y.2), pt b (.cells #[slV y.1 y.2.length] 99 (0, 0))]
theorem zq2 (b : Nat) (y : Option (Nat × Nat) × List Nat) : ∀ it ∈ aiB b y, it.Stable none' := by simp [aiB, zac, zab]
theorem ztl {f : FuncId} {cs : List Value} {mi mo : List Eng.Item} {E : List Nat → Nat → Prop} {S : List Nat → Prop} (hb : zb9 Tryz.prog f = true) (hit : qf0 Tryz.prog f cs mi mo E S (fun n => [.int .i64 (n : Int)])) (hmi : ∀ it ∈ mi, it.Stable none') (hmo : ∀ it ∈ mo, it.Stable none') (hE : ∀ k x, E k x → k.length < 1000000000) (w : World) (hw : ∀ it ∈ mi, za2 it w) (ha : mi.Pairwise Eng.Item.Apart) :
  Ct Tryz.prog 184 #[.slice none 0 0, .func (.func f) #[] cs.toArray] w (zap mi) (fun x : Option (Nat × Nat) × List Nat => slV x.1 x.2.length) (fun x => S x.2) (fun x => own 3 1 x.1 x.2.length (zfn x.2) :: mo) := by
 refine qf6 [_, _] mi Tryz.func184 rfl rfl hw ha ?_
 simp only [zaa]
 refine goA ?_
 refine zd2 rfl rfl rfl fun b2 _ => ?_
 refine goA ?_
 refine zr3 3 1 ?_
 refine zr1 (m' := aiB b2 (none, []) ++ (mi ++ [])) (by rw [List.append_nil]; exact .refl _) ?_
 refine qi4 (m2 := []) (aiB b2) (fun k y => y.2 = k) (fun _ _ => False) (none, []) rfl rfl hb hit (fun _ => rfl) (by decide) (zq2 _) hmi rfl ?_ ?_ ?_
 ·rintro ly rc k x ⟨o, out⟩ W hx hk
  simp only at hk
  subst hk
  have hlen := hE _ _ hx
  simp only [aiB, zm7, List.zip_cons_cons, List.zip_nil_right]
  refine goA ?_
  refine qi0 ?_
  refine goA ?_
  refine za0 rfl (zbc rfl rfl rfl rfl rfl rfl) fun ⟨bq, hbq⟩ => ?_
  refine goA ?_
  refine za0 rfl (zak (zc9 _ _ _ _) (zdj (news := [.int .i64 (x : Int)]) rfl rfl rfl rfl rfl rfl rfl rfl (by omega) (fun w' hw' j v hj => by rw [zc8, Nat.zero_add]; exact zbo (hw'.item _ (.tail _ (.head _))).1 j v hj))) fun o' => ?_
  refine goA ?_
  refine za1 [3, 0, 2] rfl rfl ?_
  refine za0 rfl (zaj rfl rfl rfl rfl (zq7 _ _) (zyz _ _) (show (0 : Nat) < 1 from by decide)) fun _ => ?_
  refine za1 [2, 1, 0] rfl rfl ?_
  refine goA ?_
  have e1 : (out ++ [x]).length = out.length + 1 := by simp
  have e2 : zfn (out ++ [x]) = zfn out ++ [.int .i64 (x : Int)] := by simp [zfn]
  refine zng .normal none rfl (o', out ++ [x]) rfl ?_ (zq2 b2 _)
  simp only [aiB, e1, e2]
  exact .refl _
 ·rintro D k ⟨o, out⟩ hS hk
  simp only at hk
  subst hk
  simp only [aiB, List.append_nil]
  refine goA ?_
  refine qlp ?_
  exact zbw (o, out) rfl rfl rfl hS (.cons_cons _ (.cons _ (.refl _))) (by
   intro it hm
   rcases hm with _ | ⟨_, hm⟩
   ·exact zab _ _ _ _ _ _
   ·exact hmo it hm)
 ·rintro D c s h
  exact h.elim
theorem zqt {f : FuncId} {cs : List Value} {mi mo : List Eng.Item} {E : List Nat → Nat → Prop} {S : List Nat → Prop} (hb : zb9 Tryz.prog f = true) (hit : qf0 Tryz.prog f cs mi mo E S (fun n => [.int .i64 (n : Int)])) (hmi : ∀ it ∈ mi, it.Stable none') (hmo : ∀ it ∈ mo, it.Stable none') (hE : ∀ k x, E k x → k.length < 1000000000) (w : World) (hw : ∀ it ∈ mi, za2 it w) (ha : mi.Pairwise Eng.Item.Apart) :
  Ct Tryz.prog 164 #[.func (.func f) #[] cs.toArray] w (zap mi) (fun x : Option (Nat × Nat) × List Nat => slV x.1 x.2.length) (fun x => S x.2) (fun x => own 3 1 x.1 x.2.length (zfn x.2) :: mo) := by
 refine zbd [_] mi Tryz.func164 rfl rfl hw ha ?_
 simp only [zaa]
 refine goA ?_
 refine zju (m' := mi ++ []) (by rw [List.append_nil]) ?_
 refine zae rfl (zba (pre := mi) (m := []) rfl (by kernel_rfl) rfl hmi (fun w1 hw1 hh1 ha1 => ztl hb hit hmi hmo hE w1 hh1 ha1)) fun ⟨⟨o, out⟩, hS⟩ => ?_
 dsimp only at hS ⊢
 refine zju (m' := own 3 1 o out.length (zfn out) :: mo) (by rw [List.append_nil]) ?_
 refine goA ?_
 exact zbw (o, out) rfl rfl rfl hS (.refl _) (by
   intro it hm
   rcases hm with _ | ⟨_, hm⟩
   ·exact zab _ _ _ _ _ _
   ·exact hmo it hm)
def kyV (x : Nat) : Value := .func (.func 166) #[] #[.pointer (some ⟨x, 0, none⟩)]
theorem qa3 (b : Nat) (w : World) : Ct Tryz.prog 136 #[.map (some b)] w none' kyV (fun _ => True) (fun x => [pt x (.cells #[.map (some b)] 91 (0, 0))]) := by
 refine zfo [_] Tryz.func136 rfl rfl ?_
 simp only [zaa]
 refine goA ?_
 refine zd2 rfl rfl rfl fun b1 _ => ?_
 refine goA ?_
 refine l_w rfl (znm rfl) ?_
 refine goA ?_
 exact zbw b1 rfl rfl rfl trivial (.refl _) (by simp [zac])
end Go.Proofs.YtkkfifhaobjicaaGreatDoor
namespace Go.Eng
open Go.RowKit
variable {P : Program} {l : zat} {H : World → Prop} {ty : TypeId} {q : IntKind} {x y : Operand} {T k e : TypeId} {b : Nat} {A : zck} {h : Nat} {zv : Value}
/-! Maps that lie there, items or not. -/
end Go.Eng
namespace Go.Proofs.YtkkfifhaobjicaaGreatDoor
open Go.RowKit Go.Eng Go.Eng.Bm
set_option maxRecDepth 100000
set_option maxHeartbeats 40000000
abbrev PR := List (Nat × Bys)
def pgV (s : Bys) : Value := .agg (zaf s).toArray
def toP (A : PR) : zck := A.map fun p => (p.1, pgV p.2)
def toB (R : List Nat) : zck := R.map fun n => (n, .bool true)
structure Pg where
 b : Nat
 bl : Nat
 kb : Nat
 db : Nat
 cb : Nat
 g : Lg
 n : Nat
 note : Bys
 K : PR
 R : List Nat
 C : PR
 dead : Bool
abbrev pgA (s : Pg) (d : Dk) : Array Value := #[.pointer (some ⟨s.bl, 0, none⟩), .pointer (some ⟨d.b, 0, none⟩), .int .i64 (s.n : Int), .string ⟨s.note.toArray⟩, .map (some s.kb), .map (some s.db), .map (some s.cb), .bool s.dead]
abbrev pgC (s : Pg) (d : Dk) : Eng.Item := pt s.b (.cells (pgA s d) 94 (0, 0))
def pgL (s : Pg) (d : Dk) : List Eng.Item := [pgC s d, lgI s.bl d s.g, zd6 .i64 s.kb (toP s.K), zd6 .i64 s.db (toB s.R), zd6 .i64 s.cb (toP s.C)]
def pgI (s : Pg) (d : Dk) : Eng.Item := zgu (pgL s d)
theorem qbz (s : Pg) (d : Dk) : ∀ it ∈ pgL s d, it.Stable none' := by simp [pgL, zac, za6]
theorem zco (s : Pg) (d : Dk) : (pgI s d).Stable none' := zad _
theorem zim {s : Pg} {d : Dk} {w w0 : World} {F : Nat → Prop} {m : List Eng.Item} (h : Hp w0 F (pgI s d :: m) w) : Hp w0 F (pgL s d ++ m) w := Hp.open1 h
theorem zf5 {s : Pg} {d : Dk} {w w0 : World} {F : Nat → Prop} {m : List Eng.Item} (h : Hp w0 F (pgL s d ++ m) w) : Hp w0 F (pgI s d :: m) w := Hp.close1 (qbz s d) h
theorem qd9 {s : Pg} {d : Dk} {w : World} (h : za2 (pgI s d) w) {it : Eng.Item} (hm : it ∈ pgL s d) : za2 it w := h.1.1 it hm
theorem zqn {s : Pg} {d : Dk} {w : World} (h : za2 (pgI s d) w) (i : Nat) {v : Value} (hv : (pgA s d)[i]? = some v) : w.cell? ⟨s.b, i, none⟩ = some v :=
 zdx (qd9 h (it := pgC s d) (.head _)).1 hv
theorem qn0 {s : Pg} {d : Dk} {w : World} (h : za2 (pgI s d) w) : za2 (lgI s.bl d s.g) w := qd9 h (.tail _ (.head _))
theorem zfq (a b : Nat) (ha : a ≤ 1000000) (hb : b ≤ 1000000) (w : World) : Pu Tryz.prog 75 #[.int .i64 a, .int .i64 b] w (.int .i64 (2 + a + b : Nat)) := by
 refine zbl [_, _] Tryz.func75 rfl rfl ?_
 simp only [zaa, Nat.reduceAdd]
 refine goA ?_
 exact zc2 rfl rfl rfl
theorem zs1 (s : Pg) (d : Dk) (w : World) (h : za2 (pgI s d) w) : Pu Tryz.prog 101 #[.pointer (some ⟨s.b, 0, none⟩)] w (.int .i64 (s.n : Int)) := by
 refine zbl [_] Tryz.func101 rfl rfl ?_
 simp only [zaa]
 refine goA ?_
 refine l_w rfl (zaz rfl rfl (fun w' hw' => zqn (h.keep hw') 2 rfl)) ?_
 refine goA ?_
 exact zc2 rfl rfl rfl
theorem zqs (s : Pg) (d : Dk) (hn : s.n ≤ 1024) (hs : s.g.h.secs < 65536) (w : World) (h : za2 (pgI s d) w) : Pu Tryz.prog 91 #[.pointer (some ⟨s.b, 0, none⟩)] w (.int .i64 (2 + s.g.h.secs + s.n : Nat)) := by
 refine zbl [_] Tryz.func91 rfl rfl ?_
 simp only [zaa]
 refine goA ?_
 refine zaq [] 11 rfl rfl (by kernel_rfl) ?_
 (repeat first | refine dAv [3, 8] rfl rfl rfl ?_ | refine dno [3, 8] rfl rfl rfl ?_ | refine dT [3, 8] rfl rfl rfl rfl ?_ | refine dF [3, 8] rfl rfl rfl rfl ?_)
 refine d_v [8] rfl rfl (by kernel_rfl) (fun _ h => goH h) rfl rfl (zaz rfl rfl (fun w' hw' => zqn (h.keep hw') 0 rfl)) ?_
 (repeat first | refine dAv [8] rfl rfl rfl ?_ | refine dno [8] rfl rfl rfl ?_ | refine dT [8] rfl rfl rfl rfl ?_ | refine dF [8] rfl rfl rfl rfl ?_)
 refine d_v [4] rfl rfl (by kernel_rfl) (fun _ h => goH h) rfl rfl (zaz rfl rfl (fun w' hw' => zqn (h.keep hw') 2 rfl)) ?_
 refine goE ?_
 refine zau 4 ⟨by kernel_rfl, by decide⟩ rfl rfl (zag rfl (by kernel_rfl) rfl (fun w1 hw1 => zgp s.bl d s.g w1 (qn0 (h.keep hw1)))) (fun _ _ h => goH h) fun _ => ?_
 refine goE ?_
 refine zau 9 ⟨by kernel_rfl, by decide⟩ rfl rfl (zag rfl (by kernel_rfl) rfl (fun w1 hw1 => zfq s.g.h.secs s.n (by omega) (by omega) w1)) (fun _ _ h => goH h) fun _ => ?_
 refine goE ?_
 refine zbs (by kernel_rfl) ?_
 refine goA ?_
 exact zc2 rfl rfl rfl
def qcs (s : Pg) (i : Int) : Nat := if i < 0 ∨ (s.n : Int) ≤ i then 2 else if s.dead then 4 else 0
theorem zon (s : Pg) (d : Dk) (i : Int) (w : World) (h : za2 (pgI s d) w) : Pu Tryz.prog 33 #[.pointer (some ⟨s.b, 0, none⟩), .int .i64 i] w (.int .i64 (qcs s i : Nat)) := by
 refine zbl [_, _] Tryz.func33 rfl rfl ?_
 simp only [zaa, Nat.reduceAdd]
 refine goA ?_
 unfold qcs
 by_cases h0 : i < 0
 ·refine goA ?_
  exact zc2 rfl rfl (by rw [if_pos (.inl h0)]; rfl)
 ·refine goA ?_
  refine l_w rfl (zaz (v := .int .i64 (s.n : Int)) rfl rfl (fun w' hw' => zqn (h.keep hw') 2 rfl)) ?_
  refine goA ?_
  by_cases h1 : (s.n : Int) ≤ i
  ·refine goA ?_
   exact zc2 rfl rfl (by rw [if_pos (.inr h1)]; rfl)
  ·refine goA ?_
   refine l_w rfl (zaz (v := .bool s.dead) rfl rfl (fun w' hw' => zqn (h.keep hw') 7 rfl)) ?_
   rw [if_neg (by omega)]
   cases hd : s.dead with
   | true =>
    refine goA ?_
    exact zc2 rfl rfl rfl
   | false =>
    refine goA ?_
    exact zc2 rfl rfl rfl
end Go.Proofs.YtkkfifhaobjicaaGreatDoor
