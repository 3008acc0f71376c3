/- Contracts of package bits, the second part. -/
/- Contracts of package bits, the third part: the map of a page. -/
/- maps.Keys of a map keyed by whole numbers; slices.Collect of its keys. -/
/- slices.AppendSeq and slices.Collect of whole numbers; maps.Keys. -/
import Derived.Test.YtplhamichcnmmaaGreatDoorHc24
import Derived.Test.YtplhamichcnmmaaGreatDoorHc20
import Derived.Test.YtplhamichcnmmaaGreatDoorHc06
import Derived.Test.YtplhamichcnmmaaGreatDoorChecked
import Derived.Test.YtplhamichcnmmaaGreatDoorHc21
namespace Go.Proofs.YtplhamichcnmmaaGreatDoor
open Go.RowKit Go.Eng Go.Eng.Bm
set_option maxRecDepth 100000
set_option maxHeartbeats 40000000
/-! ### Used -/
def wordsC (n : Nat) (S : Nat → Bool) : Array Value := (mapC n S).extract 1 17
theorem wordsC_at (n : Nat) (S : Nat → Bool) {k : Nat} (hk : k < 16) : (wordsC n S)[k]? = some (.int .u64 (word S k)) := by
  unfold wordsC
  rw [Array.getElem?_extract, if_pos (by rw [mapC_size]; omega), mapC_at n S hk]
theorem mused_calls (n : Nat) (S : Nat → Bool) (w : World) : Pu Tryz.prog 66 #[.agg (mapC n S)] w (.int .i64 (cnt S 1024)) := by
  refine pu_of [_] Tryz.func66 rfl rfl ?_
  simp only [argSlots]
  refine goA ?_
  refine l_boxa rfl rfl fun b hb => ?_
  refine goA ?_
  refine l_w rfl ((v_loadr (n := 16) rfl rfl (.head _) (by rw [mapC_size]; omega))) ?_
  refine goA ?_
  refine t_for (α := Nat) (fun k => [(8, .int .i64 k), (3, .int .i64 (cnt S (64 * k))), (7, .agg (wordsC n S))]) (fun k => k ≤ 16) (fun _ => []) (fun k => 16 - k) 0 ⟨rfl, rfl, rfl, trivial⟩ (by decide) Hp.none fun k hk => ?_
  have hc := cnt_le S (64 * k)
  refine goA ?_
  refine t_cond _ rfl rfl (fun h => ?_) (fun h => ?_)
  · have hk' : k < 16 := by simp at h; omega
    refine goA ?_
    refine l_w rfl ((v_arrat rfl rfl rfl rfl rfl hk' (wordsC_at n S hk'))) ?_
    refine goA ?_
    refine l_opg rfl (o_pure rfl (by kernel_rfl) rfl (fun w _ => ones_calls _ w)) fun _ => ?_
    have hc2 := cnt_le (fun i => S (64 * k + i)) 64
    refine goA ?_
    exact x_round (k + 1) ⟨rfl, by rw [show 64 * (k + 1) = 64 * k + 64 by omega, cnt_add]; rfl, rfl, trivial⟩ (by omega) Hp.none (by omega)
  · obtain rfl : k = 16 := by simp at h; omega
    refine goA ?_
    exact x_pu rfl rfl rfl
/-! ### The least bit -/
structure TabW (w : World) : Prop where
  obj : w.heap[0]? = some (.cells (tab64.map fun n : Nat => Value.int .u8 n).toArray 180 (0, 0))
theorem TabW.at_ {w : World} (h : TabW w) (j : Nat) (hj : j < 64) : w.cell? ⟨0, j, none⟩ = some (.int .u8 (tab64.getD j 0 : Nat)) := by
  have := rangeAt_pt h.obj j (.int .u8 (tab64.getD j 0 : Nat)) (by
    rw [List.getElem?_map, List.getD_eq_getElem?_getD, List.getElem?_eq_getElem (show j < tab64.length from hj)]; rfl)
  rwa [Nat.zero_add] at this
theorem TabW.keep {w0 w : World} {m : List Eng.Item} (h : TabW w0) (hw : Hp w0 none' m w) : TabW w := ⟨(hw.fr.block _ (Array.getElem?_eq_some_iff.1 h.obj).1 (fun h => h)).trans h.obj⟩
theorem tz_calls (x t : Nat) (hx : x < 18446744073709551616) (ht : x.testBit t = true) (hl : ∀ j, j < t → x.testBit j = false) (w : World) (hw : TabW w) : Pu Tryz.prog 113 #[.int .u64 x] w (.int .i64 t) := by
  have h0 : 0 < x := by
    rcases Nat.eq_zero_or_pos x with h | h
    · subst h; simp at ht
    · exact h
  have ht64 : t < 64 := by
    rcases Nat.lt_or_ge t 64 with h | h
    · exact h
    · have : x.testBit t = false := Nat.testBit_lt_two_pow (Nat.lt_of_lt_of_le hx (Nat.pow_le_pow_right (n := 2) (i := 64) (by decide) h))
      rw [this] at ht; cases ht
  have hn := and_neg hx ht hl
  obtain ⟨t1, t2⟩ := tab_ok t ht64
  refine pu_of [_] Tryz.func113 rfl rfl ?_
  simp only [argSlots]
  refine goA ?_
  refine l_w rfl ((v_neg64 rfl h0 hx)) ?_
  refine l_w rfl ((v_and64 rfl rfl hx)) ?_
  refine l_say 8 _ (.int .u64 (2 ^ t : Nat)) rfl (by rw [hn]) ?_
  refine l_w rfl ((v_mulUC rfl rfl)) ?_
  refine l_w rfl ((v_shr64U rfl rfl (by decide))) ?_
  refine l_say 10 _ (.int .u64 (tabIdx t : Nat)) rfl rfl ?_
  refine l_w rfl ((v_idxa1 rfl rfl rfl t1)) ?_
  refine l_w rfl ((v_load (v := .int .u8 t) rfl rfl fun w' hw' => ?_)) ?_
  · have := (hw.keep hw').at_ (tabIdx t) t1
    rw [t2] at this
    simpa using this
  refine goA ?_
  exact x_pu rfl rfl rfl
theorem tz_zero (w : World) : Pu Tryz.prog 113 #[.int .u64 0] w (.int .i64 64) := by
  refine pu_of [_] Tryz.func113 rfl rfl ?_
  simp only [argSlots]
  refine goA ?_
  exact x_pu rfl rfl rfl
/-! ### Find -/
theorem mfind_some (n : Nat) (S : Nat → Bool) (a : Nat) (hn : n ≤ 1024) (ha : a < n) (hS : S a = false) (hl : ∀ j, j < a → S j = true) (w : World) (hw : TabW w) :
    Pu Tryz.prog 70 #[.agg (mapC n S)] w (.tuple #[.int .i64 a, .bool true]) := by
  refine pu_of [_] Tryz.func70 rfl rfl ?_
  simp only [argSlots]
  refine goA ?_
  refine l_boxa rfl rfl fun b hb => ?_
  refine goA ?_
  refine l_w rfl ((v_loadr (n := 16) rfl rfl (.head _) (by rw [mapC_size]; omega))) ?_
  refine goA ?_
  refine t_for (α := Nat) (fun k => [(1, .pointer (some ⟨b, 0, none⟩)), (9, .int .i64 k), (8, .agg (wordsC n S))]) (fun k => k ≤ a / 64) (fun _ => [pt b (.cells (mapC n S) 92 (0, 0))]) (fun k => 16 - k) 0 ⟨rfl, rfl, rfl, trivial⟩ (Nat.zero_le _) (fun _ h => h) fun k hk => ?_
  refine goA ?_
  have hk' : k < 16 := by omega
  have hwl := word_lt S k
  refine goA ?_
  refine l_w rfl ((v_arrat rfl rfl rfl rfl rfl hk' (wordsC_at n S hk'))) ?_
  refine goA ?_
  refine l_w rfl (v_not64 rfl hwl) ?_
  refine goA ?_
  by_cases hka : k = a / 64
  · have htz := tz_calls (18446744073709551615 ^^^ word S k) (a % 64) (Nat.xor_lt_two_pow (n := 64) (by decide) hwl) (by rw [not_word S k _ (by omega), show 64 * k + a % 64 = a by omega, hS]; rfl) (fun j hj => by rw [not_word S k _ (by omega), hl _ (by omega)]; rfl)
    have hnf : word S k ≠ 18446744073709551615 := word_notfull (j := a % 64) (by omega) (by rw [show 64 * k + a % 64 = a by omega, hS])
    refine l_opg rfl (o_pure rfl (by kernel_rfl) rfl (fun w' hw' => htz w' (hw.keep hw'))) fun _ => ?_
    refine l_w rfl ((v_add rfl rfl (by omega))) ?_
    refine l_say 18 _ (.int .i64 a) rfl (by rw [show k * 64 + a % 64 = a by omega]) ?_
    refine goA ?_
    refine l_say 21 _ (.bool true) rfl (by congr 1) ?_
    refine goA ?_
    refine l_opg rfl (o_pure rfl (by kernel_rfl) rfl (fun w' _ => on_any _ n a w' (mapC_0 n S))) fun _ => ?_
    refine l_say 24 _ (.bool true) rfl (by simp; omega) ?_
    refine goA ?_
    exact x_pu2 rfl rfl rfl rfl
  · have hf := word_full (S := S) (k := k) (fun j hj => hl _ (by omega))
    rw [hf]
    refine l_opg rfl (o_pure rfl (by kernel_rfl) rfl (fun w' hw' => tz_zero w')) fun _ => ?_
    refine goA ?_
    exact x_round (k + 1) ⟨rfl, rfl, rfl, trivial⟩ (by omega) (fun _ h => h) (by omega)
theorem mfind_none (n : Nat) (S : Nat → Bool) (hn : n ≤ 1024) (hl : ∀ j, j < n → S j = true) (w : World) (hw : TabW w) :
    Pu Tryz.prog 70 #[.agg (mapC n S)] w (.tuple #[.int .i64 0, .bool false]) := by
  refine pu_of [_] Tryz.func70 rfl rfl ?_
  simp only [argSlots]
  refine goA ?_
  refine l_boxa rfl rfl fun b hb => ?_
  refine goA ?_
  refine l_w rfl ((v_loadr (n := 16) rfl rfl (.head _) (by rw [mapC_size]; omega))) ?_
  refine goA ?_
  refine t_for (α := Nat) (fun k => [(1, .pointer (some ⟨b, 0, none⟩)), (9, .int .i64 k), (8, .agg (wordsC n S))]) (fun k => k ≤ 16) (fun _ => [pt b (.cells (mapC n S) 92 (0, 0))]) (fun k => 16 - k) 0 ⟨rfl, rfl, rfl, trivial⟩ (Nat.zero_le _) (fun _ h => h) fun k hk => ?_
  refine goA ?_
  refine t_cond _ rfl rfl (fun h => ?_) (fun h => ?_)
  · have hk' : k < 16 := by simp at h; omega
    have hwl := word_lt S k
    refine goA ?_
    refine l_w rfl ((v_arrat rfl rfl rfl rfl rfl hk' (wordsC_at n S hk'))) ?_
    refine goA ?_
    refine l_w rfl (v_not64 rfl hwl) ?_
    refine goA ?_
    rcases least_free (fun j => S (64 * k + j)) 64 with hf | ⟨a, ha, hS, hla⟩
    · have hf := word_full (S := S) (k := k) hf
      rw [hf]
      refine l_opg rfl (o_pure rfl (by kernel_rfl) rfl (fun w' hw' => tz_zero w')) fun _ => ?_
      refine goA ?_
      exact x_round (k + 1) ⟨rfl, rfl, rfl, trivial⟩ (by omega) (fun _ h => h) (by omega)
    · have hge : n ≤ 64 * k + a := by
        rcases Nat.lt_or_ge (64 * k + a) n with h' | h'
        · rw [hl _ h'] at hS; cases hS
        · exact h'
      have htz := tz_calls (18446744073709551615 ^^^ word S k) a (Nat.xor_lt_two_pow (n := 64) (by decide) hwl) (by rw [not_word S k _ ha, hS]; rfl) (fun j hj => by rw [not_word S k _ (by omega), hla _ hj]; rfl)
      have hnf : word S k ≠ 18446744073709551615 := word_notfull (j := a) ha hS
      refine l_opg rfl (o_pure rfl (by kernel_rfl) rfl (fun w' hw' => htz w' (hw.keep hw'))) fun _ => ?_
      refine l_w rfl ((v_add rfl rfl (by omega))) ?_
      refine goA ?_
      refine l_say 21 _ (.bool true) rfl (by congr 1) ?_
      refine goA ?_
      refine l_opg rfl (o_pure rfl (by kernel_rfl) rfl (fun w' _ => on_any _ n _ w' (mapC_0 n S))) fun _ => ?_
      refine l_say 24 _ (.bool false) rfl (by simp; omega) ?_
      refine goA ?_
      exact x_round (k + 1) ⟨rfl, rfl, rfl, trivial⟩ (by omega) (fun _ h => h) (by omega)
  · refine goA ?_
    exact x_pu2 rfl rfl rfl rfl
/-! ### Bytes -/
def bcells (S : Nat → Bool) (k : Nat) : Array Value := ((List.range 512).map fun j => Value.int .u8 (byte (trunc S k) j : Nat)).toArray
theorem bcells_size (S : Nat → Bool) (k : Nat) : (bcells S k).size = 512 := by simp [bcells]
theorem bcells_at (S : Nat → Bool) (k : Nat) {j : Nat} (hj : j < 512) : (bcells S k)[j]? = some (.int .u8 (byte (trunc S k) j : Nat)) := by
  simp only [bcells, List.getElem?_toArray]
  rw [List.getElem?_map, List.getElem?_range hj]; rfl
theorem bcells_zero (S : Nat → Bool) : bcells S 0 = Array.replicate 512 (.int .u8 0) := by
  refine Array.ext_getElem? fun j => ?_
  by_cases hj : j < 512
  · rw [bcells_at S 0 hj]
    have : byte (trunc S 0) j = 0 := by
      refine Nat.eq_of_testBit_eq fun i => ?_
      unfold byte; rw [testBit_num]; simp [trunc]
    rw [this]; simp [hj]
  · rw [Array.getElem?_eq_none (by rw [bcells_size]; omega), Array.getElem?_eq_none (by simp; omega)]
theorem bcells_no (S : Nat → Bool) (k : Nat) (h : S k = false) : bcells S (k + 1) = bcells S k := by
  exact congrArg List.toArray (List.map_congr_left fun j _ => by rw [byte_same S k j (.inr h)])
theorem bcells_yes (S : Nat → Bool) (k : Nat) (hk : k < 4096) (h : S k = true) : (bcells S k).setIfInBounds (k / 8) (.int .u8 (byte (trunc S k) (k / 8) ||| 2 ^ (k % 8) : Nat)) = bcells S (k + 1) := by
  refine Array.ext_getElem? fun j => ?_
  rw [Array.getElem?_setIfInBounds]
  by_cases e : k / 8 = j
  · subst e
    rw [if_pos rfl, if_pos (by rw [bcells_size]; omega), bcells_at _ _ (by omega), byte_or S k h]
  · rw [if_neg e]
    by_cases hj : j < 512
    · rw [bcells_at _ _ hj, bcells_at _ _ hj, byte_same S k j (.inl (Ne.symm e))]
    · rw [Array.getElem?_eq_none (by rw [bcells_size]; omega), Array.getElem?_eq_none (by rw [bcells_size]; omega)]
theorem mbytes_calls (n : Nat) (S : Nat → Bool) (hn : n ≤ 1024) (w : World) :
    Ct Tryz.prog 58 #[.agg (mapC n S)] w none' (α := Nat) (fun c => .slice (some ⟨c, 0, none⟩) 512 512) (fun _ => True) (fun c => [pt c (.cells (bcells S n) 5 (0, 0))]) := by
  refine ct_of [_] Tryz.func58 rfl rfl ?_
  simp only [argSlots]
  refine goA ?_
  refine l_boxa rfl rfl fun b hb => ?_
  refine goA ?_
  refine l_make rfl rfl rfl rfl rfl rfl (by decide) (by decide) fun c hc => ?_
  refine goA ?_
  refine t_for (α := Nat) (fun k => [(1, .pointer (some ⟨b, 0, none⟩)), (7, .int .i64 n), (8, .int .i64 k), (3, .slice (some ⟨c, 0, none⟩) 512 512)]) (fun k => k ≤ n) (fun k => [pt c (.cells (bcells S k) 5 (0, 0)), pt b (.cells (mapC n S) 92 (0, 0))]) (fun k => n - k) 0 ⟨rfl, rfl, rfl, rfl, trivial⟩ (Nat.zero_le _) (fun _ h => by rw [bcells_zero]; exact h) fun k hk => ?_
  refine goA ?_
  refine t_cond _ rfl rfl (fun h => ?_) (fun h => ?_)
  · have hk' : k < n := by simp at h; omega
    refine goA ?_
    refine l_opg rfl (o_pure rfl (by kernel_rfl) rfl (fun w' _ => has_in n S k hk' hn w')) fun _ => ?_
    refine goA ?_
    refine t_cond _ rfl rfl (fun hS => ?_) (fun hS => ?_)
    · refine goA ?_
      have hk8 : k / 8 < 512 := by omega
      have hb8 := byte_lt (trunc S k) (k / 8)
      have hp8 : 2 ^ (k % 8) < 256 := Nat.pow_lt_pow_right (n := 8) (by decide) (by omega)
      have hpe : 1 * 2 ^ (k % 8) % 256 = 2 ^ (k % 8) := by rw [Nat.one_mul, Nat.mod_eq_of_lt hp8]
      refine t_draw 10 (by kernel_rfl) (fun _ h => h.drew) ?_
      (repeat first | (apply d_w [] rfl rfl rfl (by kernel_rfl) (fun _ h => h); focus (first | exact v_move rfl | exact v_assign rfl | exact v_bt rfl rfl | exact v_extract rfl rfl | exact v_field0 rfl rfl | exact v_field rfl rfl | exact v_lens rfl rfl | exact v_lenstr rfl rfl | exact v_nt rfl | exact v_load1p rfl rfl (by repeat first | exact .head _ | apply List.Mem.tail) | exact v_loadp rfl rfl (by repeat first | exact .head _ | apply List.Mem.tail) rfl | exact v_loada rfl rfl (by repeat first | exact .head _ | apply List.Mem.tail) | exact v_eqb rfl rfl rfl | ((first | refine v_bn rfl rfl ?_ | refine v_is1 rfl rfl rfl ?_ | refine v_ia1 rfl rfl rfl ?_ | refine v_sa rfl rfl rfl ?_ | refine v_sF rfl rfl rfl ?_ | refine v_sT rfl rfl rfl ?_ | refine v_sFT rfl rfl rfl rfl ?_ | refine v_lF rfl rfl rfl rfl ?_ | refine v_is rfl rfl rfl ?_ | refine v_ia rfl rfl rfl ?_); first | omega | assumption) | exact v_pT rfl rfl (by first | omega | assumption | (simp; done) | exact fun h => h (by assumption) | fail) | exact v_pF rfl rfl (by first | omega | assumption | (simp; done) | exact fun h => h (by assumption) | fail) | exact v_pickB rfl rfl rfl)) | refine d_no [] rfl rfl rfl (by kernel_rfl) (fun _ h => h) ?_ | refine d_T [] rfl rfl rfl rfl (by first | omega | assumption | (simp; done) | exact fun h => h (by assumption) | fail) ?_ | refine d_F [] rfl rfl rfl rfl (by first | omega | assumption | (simp; done) | exact fun h => h (by assumption) | fail) ?_)
      refine d_v [] rfl rfl (by kernel_rfl) (fun _ h => h) rfl rfl (v_loadp rfl rfl (.head _) (by rw [Nat.zero_add]; exact bcells_at S k hk8)) ?_
      (repeat first | (apply d_w [8] rfl rfl rfl (by kernel_rfl) (fun _ h => h); focus (first | exact v_move rfl | exact v_assign rfl | exact v_bt rfl rfl | exact v_extract rfl rfl | exact v_field0 rfl rfl | exact v_field rfl rfl | exact v_lens rfl rfl | exact v_lenstr rfl rfl | exact v_nt rfl | exact v_load1p rfl rfl (by repeat first | exact .head _ | apply List.Mem.tail) | exact v_loadp rfl rfl (by repeat first | exact .head _ | apply List.Mem.tail) rfl | exact v_loada rfl rfl (by repeat first | exact .head _ | apply List.Mem.tail) | exact v_eqb rfl rfl rfl | ((first | refine v_bn rfl rfl ?_ | refine v_is1 rfl rfl rfl ?_ | refine v_ia1 rfl rfl rfl ?_ | refine v_sa rfl rfl rfl ?_ | refine v_sF rfl rfl rfl ?_ | refine v_sT rfl rfl rfl ?_ | refine v_sFT rfl rfl rfl rfl ?_ | refine v_lF rfl rfl rfl rfl ?_ | refine v_is rfl rfl rfl ?_ | refine v_ia rfl rfl rfl ?_); first | omega | assumption) | exact v_pT rfl rfl (by first | omega | assumption | (simp; done) | exact fun h => h (by assumption) | fail) | exact v_pF rfl rfl (by first | omega | assumption | (simp; done) | exact fun h => h (by assumption) | fail) | exact v_pickB rfl rfl rfl)) | refine d_no [8] rfl rfl rfl (by kernel_rfl) (fun _ h => h) ?_ | refine d_T [8] rfl rfl rfl rfl (by first | omega | assumption | (simp; done) | exact fun h => h (by assumption) | fail) ?_ | refine d_F [8] rfl rfl rfl rfl (by first | omega | assumption | (simp; done) | exact fun h => h (by assumption) | fail) ?_)
      simp only [hpe]
      refine d_v [] rfl rfl (by kernel_rfl) (fun _ h => h) rfl rfl (v_or8 rfl rfl hb8 hp8) ?_
      (repeat first | (apply d_w [] rfl rfl rfl (by kernel_rfl) (fun _ h => h); focus (first | exact v_move rfl | exact v_assign rfl | exact v_bt rfl rfl | exact v_extract rfl rfl | exact v_field0 rfl rfl | exact v_field rfl rfl | exact v_lens rfl rfl | exact v_lenstr rfl rfl | exact v_nt rfl | exact v_load1p rfl rfl (by repeat first | exact .head _ | apply List.Mem.tail) | exact v_loadp rfl rfl (by repeat first | exact .head _ | apply List.Mem.tail) rfl | exact v_loada rfl rfl (by repeat first | exact .head _ | apply List.Mem.tail) | exact v_eqb rfl rfl rfl | ((first | refine v_bn rfl rfl ?_ | refine v_is1 rfl rfl rfl ?_ | refine v_ia1 rfl rfl rfl ?_ | refine v_sa rfl rfl rfl ?_ | refine v_sF rfl rfl rfl ?_ | refine v_sT rfl rfl rfl ?_ | refine v_sFT rfl rfl rfl rfl ?_ | refine v_lF rfl rfl rfl rfl ?_ | refine v_is rfl rfl rfl ?_ | refine v_ia rfl rfl rfl ?_); first | omega | assumption) | exact v_pT rfl rfl (by first | omega | assumption | (simp; done) | exact fun h => h (by assumption) | fail) | exact v_pF rfl rfl (by first | omega | assumption | (simp; done) | exact fun h => h (by assumption) | fail) | exact v_pickB rfl rfl rfl)) | refine d_no [] rfl rfl rfl (by kernel_rfl) (fun _ h => h) ?_ | refine d_T [] rfl rfl rfl rfl (by first | omega | assumption | (simp; done) | exact fun h => h (by assumption) | fail) ?_ | refine d_F [] rfl rfl rfl rfl (by first | omega | assumption | (simp; done) | exact fun h => h (by assumption) | fail) ?_)
      refine d_tail ⟨by kernel_rfl, by kernel_rfl⟩ rfl rfl (o_store1 rfl rfl rfl rfl rfl rfl (by rw [bcells_size]; omega)) fun _ => ?_
      refine goA ?_
      exact x_round (k + 1) ⟨rfl, rfl, rfl, rfl, trivial⟩ (by omega) (fun _ h => by rw [Nat.zero_add, bcells_yes S k (by omega) hS] at h; exact h) (by omega)
    · refine goA ?_
      exact x_round (k + 1) ⟨rfl, rfl, rfl, rfl, trivial⟩ (by omega) (fun _ h => by rw [bcells_no S k hS]; exact h) (by omega)
  · obtain rfl : k = n := by simp at h; omega
    refine goA ?_
    refine x_ct c rfl rfl rfl trivial (by simp) (fun it hm => ?_)
    obtain rfl : it = pt c (.cells (bcells S k) 5 (0, 0)) := by simpa using hm
    exact pt_stable _ _ _
end Go.Proofs.YtplhamichcnmmaaGreatDoor

namespace Go.Proofs.YtplhamichcnmmaaGreatDoor
open Go.RowKit Go.Eng Go.Eng.Bm
set_option maxRecDepth 100000
set_option maxHeartbeats 40000000
abbrev noS : Nat → Bool := fun _ => false
def bitsOf (bs : Nat → Nat) : Nat → Bool := fun i => (bs (i / 8)).testBit (i % 8)
theorem bit_val (bs : Nat → Nat) {i k : Nat} (hk : k < 8) : ((((bs i) / 2 ^ k % 2 : Nat) : Int) == 0) = !bitsOf bs (8 * i + k) := by
  unfold bitsOf
  rw [show (8 * i + k) / 8 = i by omega, show (8 * i + k) % 8 = k by omega, Nat.testBit_eq_decide_div_mod_eq, Bool.eq_iff_iff]
  generalize bs i / 2 ^ k = q
  simp
  omega
theorem trunc_yes (f : Nat → Bool) (k : Nat) (h : f k = true) : upd (trunc f k) k true = trunc f (k + 1) := funext fun j => by
  unfold upd trunc
  by_cases e : j = k
  · subst e; simp [h]
  · by_cases h2 : j < k
    · simp [e, h2, Nat.lt_succ_of_lt h2]
    · simp only [if_neg e, h2, decide_false, Bool.false_and, show ¬ j < k + 1 by omega]
theorem trunc_no (f : Nat → Bool) (k : Nat) (h : f k = false) : trunc f k = trunc f (k + 1) := funext fun j => by
  unfold trunc
  by_cases e : j = k
  · subst e; simp [h]
  · by_cases h2 : j < k
    · simp [h2, Nat.lt_succ_of_lt h2]
    · simp only [h2, decide_false, Bool.false_and, show ¬ j < k + 1 by omega]
theorem trunc_zero (f : Nat → Bool) : trunc f 0 = fun _ => false := funext fun j => by simp [trunc]
theorem mtake_ok (ba off cap : Nat) (bs : Nat → Nat) (n : Nat) (h1 : 1 ≤ n) (h2 : n ≤ 1024) (w : World) (hbs : ∀ i, i < 512 → w.cell? ⟨ba, off + i, none⟩ = some (.int .u8 (bs i : Nat))) (hf : ∀ j, j < 4096 → bitsOf bs j = true → j < n) :
    Pu Tryz.prog 105 #[.slice (some ⟨ba, off, none⟩) 512 cap, .int .i64 n] w (.tuple #[.agg (mapC n (trunc (bitsOf bs) 4096)), .int .i64 0]) := by
  refine pu_of [_, _] Tryz.func105 rfl rfl ?_
  simp only [argSlots, Nat.reduceAdd]
  refine goA ?_
  refine l_alloca rfl rfl fun b hb => ?_
  refine goA ?_
  refine l_opg rfl (o_pure rfl (by kernel_rfl) rfl (fun w' _ => mnew_ok n h1 h2 w')) fun _ => ?_
  refine goA ?_
  refine l_alloca rfl rfl fun b2 hb2 => ?_
  refine l_op rfl (o_storea rfl rfl rfl (by rw [mapC_size]; rfl) (mapC_one _ _) (by rw [mapC_size]; rfl)) fun _ => ?_
  refine goA ?_
  refine t_for (α := Nat) (fun i => [(1, .int .i64 n), (4, .pointer (some ⟨b, 0, none⟩)), (6, .pointer (some ⟨b2, 0, none⟩)), (25, .slice (some ⟨ba, off, none⟩) 512 cap), (26, .int .i64 512), (27, .int .i64 i)]) (fun i => i ≤ 512) (fun i => [pt b2 (.cells (mapC n (trunc (bitsOf bs) (8 * i))) 92 (0, 0)), pt b (.cells (mapC 0 noS) 92 (0, 0))]) (fun i => 512 - i) 0 ⟨rfl, rfl, rfl, rfl, rfl, rfl, trivial⟩ (Nat.zero_le _) (fun _ h => by rw [Nat.mul_zero, trunc_zero, mapC_zero]; exact h) fun i hi => ?_
  refine goA ?_
  refine t_cond _ rfl rfl (fun h => ?_) (fun h => ?_)
  · have hi' : i < 512 := by simp at h; omega
    refine goA ?_
    refine l_w rfl ((v_load0 rfl rfl (fun h => h) (hbs i hi'))) ?_
    refine goA ?_
    refine t_for (α := Nat) (fun k => [(1, .int .i64 n), (4, .pointer (some ⟨b, 0, none⟩)), (6, .pointer (some ⟨b2, 0, none⟩)), (25, .slice (some ⟨ba, off, none⟩) 512 cap), (26, .int .i64 512), (27, .int .i64 i), (8, .int .i64 i), (9, .int .u8 (bs i : Nat)), (32, .int .i64 k)]) (fun k => k ≤ 8) (fun k => [pt b2 (.cells (mapC n (trunc (bitsOf bs) (8 * i + k))) 92 (0, 0)), pt b (.cells (mapC 0 noS) 92 (0, 0))]) (fun k => 8 - k) 0 ⟨rfl, rfl, rfl, rfl, rfl, rfl, rfl, rfl, rfl, trivial⟩ (Nat.zero_le _) (fun _ h => by rw [Nat.add_zero]; exact h) fun k hk => ?_
    refine goA ?_
    refine t_cond _ rfl rfl (fun h => ?_) (fun h => ?_)
    · have hk' : k < 8 := by simp at h; omega
      refine goA ?_
      refine l_w rfl (v_and1_8 rfl rfl) ?_
      refine goA ?_
      refine t_cond _ rfl rfl (fun h => ?_) (fun h => ?_)
      · have hb0 : bitsOf bs (8 * i + k) = false := by
          have := bit_val bs (i := i) hk'
          rw [show (((bs i / 2 ^ k % 2 : Nat) : Int) == 0) = true from h] at this
          simpa using this.symm
        refine goA ?_
        exact x_round (k + 1) ⟨rfl, rfl, rfl, rfl, rfl, rfl, rfl, rfl, rfl, trivial⟩ (by omega) (fun _ h => by rw [← Nat.add_assoc, ← trunc_no _ _ hb0]; exact h) (by omega)
      · have hb1 : bitsOf bs (8 * i + k) = true := by
          have := bit_val bs (i := i) hk'
          rw [show (((bs i / 2 ^ k % 2 : Nat) : Int) == 0) = false from h] at this
          simpa using this.symm
        have hlt := hf (8 * i + k) (by omega) hb1
        refine goA ?_
        refine l_opg rfl (o_pure rfl (by kernel_rfl) rfl (fun w' _ => mset_calls n _ _ true h2 w')) fun _ => ?_
        have hset : setS n (trunc (bitsOf bs) (8 * i + k)) ((8 * i + k : Nat) : Int) true = trunc (bitsOf bs) (8 * i + k + 1) := by
          unfold setS onB
          rw [decide_eq_true (show (0 : Int) ≤ ((8 * i + k : Nat) : Int) by omega), decide_eq_true (show ((8 * i + k : Nat) : Int) < (n : Int) by omega)]
          simp only [Bool.and_self, cond_true, Int.toNat_natCast]
          exact trunc_yes _ _ hb1
        rw [hset]
        refine l_op rfl (o_storea rfl rfl rfl (by rw [mapC_size]; rfl) (mapC_one _ _) (by rw [mapC_size, mapC_size])) fun _ => ?_
        refine goA ?_
        exact x_round (k + 1) ⟨rfl, rfl, rfl, rfl, rfl, rfl, rfl, rfl, rfl, trivial⟩ (by omega) (fun _ h => h) (by omega)
    · obtain rfl : k = 8 := by simp at h; omega
      refine goA ?_
      exact x_round (i + 1) ⟨rfl, rfl, rfl, rfl, rfl, rfl, trivial⟩ (by omega) (fun _ h => h) (by omega)
  · obtain rfl : i = 512 := by simp at h; omega
    refine goA ?_
    refine l_op rfl (ho_perm (bring1 _ _ _) (o_storea rfl rfl rfl (by rw [mapC_size]; rfl) (mapC_one _ _) (by rw [mapC_size, mapC_size]))) fun _ => ?_
    refine goA ?_
    exact x_pu2 rfl ⟨_, rfl, loada_run (by rw [mapC_size]; rfl) (.head _)⟩ rfl rfl
end Go.Proofs.YtplhamichcnmmaaGreatDoor

namespace Go.Proofs.YtplhamichcnmmaaGreatDoor
open Go.RowKit Go.Eng
set_option maxRecDepth 100000
set_option maxHeartbeats 40000000
def kyI (x : Nat) (b : Nat) (A : NRows) : List Eng.Item := [pt x (.cells #[.map (some b)] 77 (0, 0)), mapN .i64 b A]
theorem kyI_stable (x b : Nat) (A : NRows) : ∀ it ∈ kyI x b A, it.Stable none' := by simp [kyI, pt_stable, mapN_stable]
def keysN (A : NRows) : List Nat := A.map (·.1)
theorem keysN_nodup {b : Nat} {q : IntKind} {A : NRows} {w : World} (h : (mapN q b A).prop w) : (keysN A).Nodup := by
  obtain ⟨es, clk, -, R⟩ := h
  exact R.nodup
theorem out_filter {A : NRows} {k : List Nat} {L : NRows} (hL : L = A.filter fun x => decide (x.1 ∉ k)) (p : Nat × Value) : outN L p = A.filter fun x => decide (x.1 ∉ k ++ [p.1]) := by
  subst hL
  unfold outN
  rw [List.filter_filter]
  refine List.filter_congr fun x _ => ?_
  by_cases h1 : x.1 = p.1 <;> by_cases h2 : x.1 ∈ k <;> simp [h1, h2]
abbrev kyE (A : NRows) : List Nat → Nat → Prop := fun k x => (k ++ [x]).Nodup ∧ ∀ y ∈ k ++ [x], y ∈ keysN A
abbrev kyS (A : NRows) : List Nat → Prop := fun k => k.Perm (keysN A)
theorem keys_iter (x b : Nat) (A : NRows) : IterS Tryz.prog 128 [.pointer (some ⟨x, 0, none⟩)] (kyI x b A) [mapN .i64 b A] (kyE A) (kyS A) (fun n => [.int .i64 (n : Int)]) := by
  simp only [kyI]
  refine iterS_of [_] _ _ _ _ _ Tryz.func128 rfl rfl ?_
  intro σ ly Y I J s0 w hst h0 hy
  simp only [argSlots]
  refine t_fact (fun w hw => keysN_nodup (hw.item (mapN .i64 b A) (by simp)).1) fun hnd => ?_
  refine goA ?_
  refine l_pick [2, 0, 1] rfl rfl ?_
  refine l_op rfl (o_rangeN rfl rfl rfl) fun ⟨r, hr⟩ => ?_
  refine goA ?_
  refine t_for (α := NRows × List Nat × Option (Nat × Value) × σ) (fun y => [(0, .func (.yield ly) #[] #[]), (1, .pointer (some ⟨x, 0, none⟩)), (5, .pointer (some ⟨r, 0, none⟩))]) (fun y => y.1 = A.filter (fun x => decide (x.1 ∉ y.2.1)) ∧ y.2.1.Nodup ∧ (∀ z ∈ y.2.1, z ∈ keysN A) ∧ I y.2.1 y.2.2.2) (fun y => [itN .i64 r b A y.1 y.2.2.1, Y y.2.2.2]) (fun y => y.1.length) (A, [], none, s0) ⟨rfl, rfl, rfl, trivial⟩ ⟨by show A = A.filter (fun x => decide (x.1 ∉ ([] : List Nat))); exact (List.filter_eq_self.2 fun _ _ => by simp).symm, List.nodup_nil, ⟨(fun _ (h : _ ∈ ([] : List Nat)) => nomatch h), h0⟩⟩ (fun w h => h.sub (.cons_cons _ (.cons_cons _ (List.nil_sublist _)))) fun ⟨L, k, c, st⟩ ⟨hL, hk, hkA, hI⟩ => ?_
  simp only at hL hk hkA hI ⊢
  refine goA ?_
  refine l_op rfl (o_nextN rfl rfl) fun ⟨y, hyy⟩ => ?_
  cases y with
  | none =>
    simp only at hyy ⊢
    refine goA ?_
    subst hyy
    have hS : kyS A k := by
      refine (List.perm_ext_iff_of_nodup hk hnd).2 fun z => ⟨hkA z, fun hz => ?_⟩
      obtain ⟨p, hp, rfl⟩ := List.mem_map.1 hz
      by_cases h : p.1 ∈ k
      · exact h
      · have : p ∈ A.filter (fun x => decide (x.1 ∉ k)) := List.mem_filter.2 ⟨hp, by simpa using h⟩
        rw [← hL] at this
        exact nomatch this
    refine x_imp (m' := [Y st, mapN .i64 b A]) (fun w' hw' => (itN_end hw').pick [1, 0] rfl rfl) (x_iterSN st rfl (.inl ⟨k, hS, hI⟩) ?_ (.refl _))
    intro it hm
    rcases hm with _ | ⟨_, _ | ⟨_, hm⟩⟩
    · exact hst st
    · exact mapN_stable _ _ _ _
    · exact nomatch hm
  | some p =>
    simp only at hyy ⊢
    have hpk : p.1 ∉ k ∧ p ∈ A := by
      rw [hL] at hyy
      obtain ⟨h1, h2⟩ := List.mem_filter.1 hyy
      exact ⟨by simpa using h2, h1⟩
    have hE : kyE A k p.1 := by
      refine ⟨?_, fun z hz => ?_⟩
      · rw [List.nodup_append]
        refine ⟨hk, by simp, fun a ha b hb => ?_⟩
        rw [List.mem_singleton] at hb
        subst hb
        exact fun e => hpk.1 (e ▸ ha)
      · rcases List.mem_append.1 hz with hz | hz
        · exact hkA z hz
        · rw [List.mem_singleton] at hz
          subst hz
          exact List.mem_map.2 ⟨p, hpk.2, rfl⟩
    have hlt := outN_len hyy
    have hof := out_filter hL p
    refine goA ?_
    refine l_w rfl (v_entryN rfl (.head _)) ?_
    refine goA ?_
    refine l_pick [1, 0] rfl rfl ?_
    refine l_yield rfl rfl rfl rfl (hst st) (hy k p.1 st hE hI) fun bb s' hR => ?_
    rcases hR with ⟨rfl, h8⟩ | ⟨rfl, h8⟩
    · refine goA ?_
      exact x_round (outN L p, k ++ [p.1], some p, s') ⟨rfl, rfl, rfl, trivial⟩ ⟨hof, hE.1, hE.2, h8⟩ (fun w hw => hw.pick [1, 0] rfl rfl) hlt
    · refine goA ?_
      refine x_imp (m' := [Y s', mapN .i64 b A]) (fun w' hw' => (itN_end (hw'.pick [1, 0] rfl rfl)).pick [1, 0] rfl rfl) (x_iterS s' rfl (.inr h8) ?_ (.refl _))
      intro it hm
      rcases hm with _ | ⟨_, _ | ⟨_, hm⟩⟩
      · exact hst s'
      · exact mapN_stable _ _ _ _
      · exact nomatch hm
end Go.Proofs.YtplhamichcnmmaaGreatDoor

namespace Go.Proofs.YtplhamichcnmmaaGreatDoor
open Go.RowKit Go.Eng
set_option maxRecDepth 100000
set_option maxHeartbeats 40000000
def intsV (L : List Nat) : List Value := L.map fun n : Nat => Value.int .i64 (n : Int)
def aiB (b : Nat) (y : Option (Nat × Nat) × List Nat) : List Eng.Item := [own 3 1 y.1 y.2.length (intsV y.2), pt b (.cells #[slV y.1 y.2.length] 144 (0, 0))]
theorem aiB_stable (b : Nat) (y : Option (Nat × Nat) × List Nat) : ∀ it ∈ aiB b y, it.Stable none' := by simp [aiB, pt_stable, own_stable]
theorem iappend_calls {f : FuncId} {cs : List Value} {mi mo : List Eng.Item} {E : List Nat → Nat → Prop} {S : List Nat → Prop} (hb : hasBody Tryz.prog f = true) (hit : IterS Tryz.prog f cs mi mo E S (fun n => [.int .i64 (n : Int)])) (hmi : ∀ it ∈ mi, it.Stable none') (hmo : ∀ it ∈ mo, it.Stable none') (hE : ∀ k x, E k x → k.length < 1000000000) (w : World) (hw : ∀ it ∈ mi, Here it w) (ha : mi.Pairwise Eng.Item.Apart) :
    Ct Tryz.prog 138 #[.slice none 0 0, .func (.func f) #[] cs.toArray] w (foots mi) (fun x : Option (Nat × Nat) × List Nat => slV x.1 x.2.length) (fun x => S x.2) (fun x => own 3 1 x.1 x.2.length (intsV x.2) :: mo) := by
  refine cuM_of [_, _] mi Tryz.func138 rfl rfl hw ha ?_
  simp only [argSlots]
  refine goA ?_
  refine l_box1 rfl rfl rfl fun b2 _ => ?_
  refine goA ?_
  refine t_ownN 3 1 ?_
  refine t_perm (m' := aiB b2 (none, []) ++ (mi ++ [])) (by rw [List.append_nil]; exact .refl _) ?_
  refine t_rangeS (m2 := []) (aiB b2) (fun k y => y.2 = k) (fun _ _ => False) (none, []) rfl rfl hb hit (fun _ => rfl) (by decide) (aiB_stable _) hmi rfl ?_ ?_ ?_
  · rintro ly rc k x ⟨o, out⟩ W hx hk
    simp only at hk
    subst hk
    have hlen := hE _ _ hx
    simp only [aiB, pslots, List.zip_cons_cons, List.zip_nil_right]
    refine goA ?_
    refine x_asg ?_
    refine goA ?_
    refine l_op rfl (o_buildslice rfl rfl rfl rfl rfl rfl) fun ⟨bq, hbq⟩ => ?_
    refine goA ?_
    refine l_op rfl (ho_perm (bring2 _ _ _ _) (o_append (news := [.int .i64 (x : Int)]) rfl rfl rfl rfl rfl rfl rfl rfl (by omega) (fun w' hw' j v hj => by rw [add_at, Nat.zero_add]; exact own_rd (hw'.item _ (.tail _ (.head _))).1 j v hj))) fun o' => ?_
    refine goA ?_
    refine l_pick [3, 0, 2] rfl rfl ?_
    refine l_op rfl (o_store1 rfl rfl rfl rfl (slV_cells1 _ _) (slV_one1 _ _) (show (0 : Nat) < 1 from by decide)) fun _ => ?_
    refine l_pick [2, 1, 0] rfl rfl ?_
    refine goA ?_
    have e1 : (out ++ [x]).length = out.length + 1 := by simp
    have e2 : intsV (out ++ [x]) = intsV out ++ [.int .i64 (x : Int)] := by simp [intsV]
    refine x_turn .normal none rfl (o', out ++ [x]) rfl ?_ (aiB_stable b2 _)
    simp only [aiB, e1, e2]
    exact .refl _
  · rintro D k ⟨o, out⟩ hS hk
    simp only at hk
    subst hk
    simp only [aiB, List.append_nil]
    refine goA ?_
    refine x_mark1 ?_
    exact x_ct (o, out) rfl rfl rfl hS (.cons_cons _ (.cons _ (.refl _))) (by
      intro it hm
      rcases hm with _ | ⟨_, hm⟩
      · exact own_stable _ _ _ _ _ _
      · exact hmo it hm)
  · rintro D c s h
    exact h.elim
theorem icollect_calls {f : FuncId} {cs : List Value} {mi mo : List Eng.Item} {E : List Nat → Nat → Prop} {S : List Nat → Prop} (hb : hasBody Tryz.prog f = true) (hit : IterS Tryz.prog f cs mi mo E S (fun n => [.int .i64 (n : Int)])) (hmi : ∀ it ∈ mi, it.Stable none') (hmo : ∀ it ∈ mo, it.Stable none') (hE : ∀ k x, E k x → k.length < 1000000000) (w : World) (hw : ∀ it ∈ mi, Here it w) (ha : mi.Pairwise Eng.Item.Apart) :
    Ct Tryz.prog 126 #[.func (.func f) #[] cs.toArray] w (foots mi) (fun x : Option (Nat × Nat) × List Nat => slV x.1 x.2.length) (fun x => S x.2) (fun x => own 3 1 x.1 x.2.length (intsV x.2) :: mo) := by
  refine cu_of [_] mi Tryz.func126 rfl rfl hw ha ?_
  simp only [argSlots]
  refine goA ?_
  refine l_perm (m' := mi ++ []) (by rw [List.append_nil]) ?_
  refine l_opg rfl (o_cu (pre := mi) (m := []) rfl (by kernel_rfl) rfl hmi (fun w1 hw1 hh1 ha1 => iappend_calls hb hit hmi hmo hE w1 hh1 ha1)) fun ⟨⟨o, out⟩, hS⟩ => ?_
  dsimp only at hS ⊢
  refine l_perm (m' := own 3 1 o out.length (intsV out) :: mo) (by rw [List.append_nil]) ?_
  refine goA ?_
  exact x_ct (o, out) rfl rfl rfl hS (.refl _) (by
      intro it hm
      rcases hm with _ | ⟨_, hm⟩
      · exact own_stable _ _ _ _ _ _
      · exact hmo it hm)
def kyV (x : Nat) : Value := .func (.func 128) #[] #[.pointer (some ⟨x, 0, none⟩)]
theorem keys_calls (b : Nat) (w : World) : Ct Tryz.prog 99 #[.map (some b)] w none' kyV (fun _ => True) (fun x => [pt x (.cells #[.map (some b)] 77 (0, 0))]) := by
  refine ct_of [_] Tryz.func99 rfl rfl ?_
  simp only [argSlots]
  refine goA ?_
  refine l_box1 rfl rfl rfl fun b1 _ => ?_
  refine goA ?_
  refine l_w rfl (v_mkf rfl) ?_
  refine goA ?_
  exact x_ct b1 rfl rfl rfl trivial (.refl _) (by simp [pt_stable])
end Go.Proofs.YtplhamichcnmmaaGreatDoor
