/- Contracts of package bits. -/
import Derived.Test.YtplhamichcnmmaaGreatDoorChecked
import Derived.Test.YtplhamichcnmmaaGreatDoorHc08
import Derived.Test.YtplhamichcnmmaaGreatDoorHc06
import Derived.Test.YtplhamichcnmmaaGreatDoorHc07
import Derived.Test.YtplhamichcnmmaaGreatDoorHc23
namespace Go.Proofs.YtplhamichcnmmaaGreatDoor
open Go.RowKit Go.Eng Go.Eng.Bm
set_option maxRecDepth 100000
set_option maxHeartbeats 40000000
theorem on_any (c : Array Value) (n i : Int) (w : World) (hc : c[0]? = some (.int .i64 n)) :
    Pu Tryz.prog 106 #[.agg c, .int .i64 i] w (.bool (decide (0 ≤ i) && decide (i < n))) := by
  refine pu_of [_, _] Tryz.func106 rfl rfl ?_
  simp only [argSlots, Nat.reduceAdd]
  refine goA ?_
  refine l_boxa rfl rfl fun b hb => ?_
  refine goA ?_
  refine l_split 7 _ rfl (fun h => ?_) (fun h => ?_)
  · refine goA ?_
    refine l_w rfl ((v_loadp rfl rfl (.head _) hc)) ?_
    refine goA ?_
    refine x_pu rfl rfl ?_
    simp only [ge_iff_le] at h; rw [h]; rfl
  · refine goA ?_
    refine x_pu rfl rfl ?_
    simp only [ge_iff_le] at h; rw [h]; rfl
theorem set_out (c : Array Value) (n i : Int) (u : Bool) (w : World) (hc : c[0]? = some (.int .i64 n)) (hs : c.size = 17) (h1 : oneAll c.toList = true) (hi : (decide (0 ≤ i) && decide (i < n)) = false) :
    Pu Tryz.prog 57 #[.agg c, .int .i64 i, .bool u] w (.agg c) := by
  refine pu_of [_, _, _] Tryz.func57 rfl rfl ?_
  simp only [argSlots, Nat.reduceAdd]
  refine goA ?_
  refine l_boxa rfl rfl fun b hb => ?_
  refine goA ?_
  refine l_alloca rfl rfl fun r hr => ?_
  refine goA ?_
  refine l_w rfl ((v_loada rfl (by rw [hs]; rfl) (.tail _ (.head _)))) ?_
  refine goA ?_
  refine l_opg rfl (o_pure rfl (by kernel_rfl) rfl (fun w _ => on_any c n i w hc)) fun _ => ?_
  refine l_say 9 _ (.bool false) rfl (by rw [hi]) ?_
  refine goA ?_
  refine l_w rfl ((v_loada rfl (by rw [hs]; rfl) (.tail _ (.head _)))) ?_
  refine l_op rfl (o_storea rfl rfl rfl (by rw [hs]; rfl) h1 hs) fun _ => ?_
  refine goA ?_
  exact x_pu rfl ⟨_, rfl, loada_run (by rw [hs]; rfl) (.head _)⟩ rfl
theorem set_in (c : Array Value) (n k : Nat) (u : Bool) (w : World) (hc : c[0]? = some (.int .i64 n)) (hs : c.size = 17) (h1 : oneAll c.toList = true) (hi : k < n) (hn : n ≤ 1024) (x : Nat) (hx : c[1 + k / 64]? = some (.int .u64 x)) (hx2 : x < 18446744073709551616) :
    Pu Tryz.prog 57 #[.agg c, .int .i64 k, .bool u] w (.agg (c.setIfInBounds (1 + k / 64) (.int .u64 (setB x (k % 64) u)))) := by
  refine pu_of [_, _, _] Tryz.func57 rfl rfl ?_
  simp only [argSlots, Nat.reduceAdd]
  refine goA ?_
  refine l_boxa rfl rfl fun b hb => ?_
  refine goA ?_
  refine l_alloca rfl rfl fun r hr => ?_
  refine goA ?_
  refine l_w rfl ((v_loada rfl (by rw [hs]; rfl) (.tail _ (.head _)))) ?_
  refine goA ?_
  refine l_opg rfl (o_pure rfl (by kernel_rfl) rfl (fun w _ => on_any c n k w hc)) fun _ => ?_
  refine l_say 9 _ (.bool true) rfl (by simp; omega) ?_
  refine goA ?_
  refine t_draw 11 (by kernel_rfl) (fun _ h => h.drew) ?_
  have hk : k / 64 < 16 := by omega
  have hp : 2 ^ (k % 64) < 18446744073709551616 := pow_lt (by omega)
  have hpe : 1 * 2 ^ (k % 64) % 18446744073709551616 = 2 ^ (k % 64) := by rw [Nat.one_mul, Nat.mod_eq_of_lt hp]
  (repeat first | (apply d_w [8] rfl rfl rfl (by kernel_rfl) (fun _ h => h); focus (first | exact v_move rfl | exact v_assign rfl | exact v_bt rfl rfl | exact v_extract rfl rfl | exact v_field0 rfl rfl | exact v_field rfl rfl | exact v_lens rfl rfl | exact v_lenstr rfl rfl | exact v_nt rfl | exact v_load1p rfl rfl (by repeat first | exact .head _ | apply List.Mem.tail) | exact v_loadp rfl rfl (by repeat first | exact .head _ | apply List.Mem.tail) rfl | exact v_loada rfl rfl (by repeat first | exact .head _ | apply List.Mem.tail) | exact v_eqb rfl rfl rfl | ((first | refine v_bn rfl rfl ?_ | refine v_is1 rfl rfl rfl ?_ | refine v_ia1 rfl rfl rfl ?_ | refine v_sa rfl rfl rfl ?_ | refine v_sF rfl rfl rfl ?_ | refine v_sT rfl rfl rfl ?_ | refine v_sFT rfl rfl rfl rfl ?_ | refine v_lF rfl rfl rfl rfl ?_ | refine v_is rfl rfl rfl ?_ | refine v_ia rfl rfl rfl ?_); first | omega | assumption) | exact v_pT rfl rfl (by first | omega | assumption | (simp; done) | exact fun h => h (by assumption) | fail) | exact v_pF rfl rfl (by first | omega | assumption | (simp; done) | exact fun h => h (by assumption) | fail) | exact v_pickB rfl rfl rfl)) | refine d_no [8] rfl rfl rfl (by kernel_rfl) (fun _ h => h) ?_ | refine d_T [8] rfl rfl rfl rfl (by first | omega | assumption | (simp; done) | exact fun h => h (by assumption) | fail) ?_ | refine d_F [8] rfl rfl rfl rfl (by first | omega | assumption | (simp; done) | exact fun h => h (by assumption) | fail) ?_)
  refine d_v [] rfl rfl (by kernel_rfl) (fun _ h => h) rfl rfl (v_loadp rfl rfl (.tail _ (.head _)) hx) ?_
  (repeat first | (apply d_w [8] rfl rfl rfl (by kernel_rfl) (fun _ h => h); focus (first | exact v_move rfl | exact v_assign rfl | exact v_bt rfl rfl | exact v_extract rfl rfl | exact v_field0 rfl rfl | exact v_field rfl rfl | exact v_lens rfl rfl | exact v_lenstr rfl rfl | exact v_nt rfl | exact v_load1p rfl rfl (by repeat first | exact .head _ | apply List.Mem.tail) | exact v_loadp rfl rfl (by repeat first | exact .head _ | apply List.Mem.tail) rfl | exact v_loada rfl rfl (by repeat first | exact .head _ | apply List.Mem.tail) | exact v_eqb rfl rfl rfl | ((first | refine v_bn rfl rfl ?_ | refine v_is1 rfl rfl rfl ?_ | refine v_ia1 rfl rfl rfl ?_ | refine v_sa rfl rfl rfl ?_ | refine v_sF rfl rfl rfl ?_ | refine v_sT rfl rfl rfl ?_ | refine v_sFT rfl rfl rfl rfl ?_ | refine v_lF rfl rfl rfl rfl ?_ | refine v_is rfl rfl rfl ?_ | refine v_ia rfl rfl rfl ?_); first | omega | assumption) | exact v_pT rfl rfl (by first | omega | assumption | (simp; done) | exact fun h => h (by assumption) | fail) | exact v_pF rfl rfl (by first | omega | assumption | (simp; done) | exact fun h => h (by assumption) | fail) | exact v_pickB rfl rfl rfl)) | refine d_no [8] rfl rfl rfl (by kernel_rfl) (fun _ h => h) ?_ | refine d_T [8] rfl rfl rfl rfl (by first | omega | assumption | (simp; done) | exact fun h => h (by assumption) | fail) ?_ | refine d_F [8] rfl rfl rfl rfl (by first | omega | assumption | (simp; done) | exact fun h => h (by assumption) | fail) ?_)
  simp only [hpe]
  refine d_v [] rfl rfl (by kernel_rfl) (fun _ h => h) rfl rfl (v_andNot64 rfl rfl hx2 hp) ?_
  (repeat first | (apply d_w [] rfl rfl rfl (by kernel_rfl) (fun _ h => h); focus (first | exact v_move rfl | exact v_assign rfl | exact v_bt rfl rfl | exact v_extract rfl rfl | exact v_field0 rfl rfl | exact v_field rfl rfl | exact v_lens rfl rfl | exact v_lenstr rfl rfl | exact v_nt rfl | exact v_load1p rfl rfl (by repeat first | exact .head _ | apply List.Mem.tail) | exact v_loadp rfl rfl (by repeat first | exact .head _ | apply List.Mem.tail) rfl | exact v_loada rfl rfl (by repeat first | exact .head _ | apply List.Mem.tail) | exact v_eqb rfl rfl rfl | ((first | refine v_bn rfl rfl ?_ | refine v_is1 rfl rfl rfl ?_ | refine v_ia1 rfl rfl rfl ?_ | refine v_sa rfl rfl rfl ?_ | refine v_sF rfl rfl rfl ?_ | refine v_sT rfl rfl rfl ?_ | refine v_sFT rfl rfl rfl rfl ?_ | refine v_lF rfl rfl rfl rfl ?_ | refine v_is rfl rfl rfl ?_ | refine v_ia rfl rfl rfl ?_); first | omega | assumption) | exact v_pT rfl rfl (by first | omega | assumption | (simp; done) | exact fun h => h (by assumption) | fail) | exact v_pF rfl rfl (by first | omega | assumption | (simp; done) | exact fun h => h (by assumption) | fail) | exact v_pickB rfl rfl rfl)) | refine d_no [] rfl rfl rfl (by kernel_rfl) (fun _ h => h) ?_ | refine d_T [] rfl rfl rfl rfl (by first | omega | assumption | (simp; done) | exact fun h => h (by assumption) | fail) ?_ | refine d_F [] rfl rfl rfl rfl (by first | omega | assumption | (simp; done) | exact fun h => h (by assumption) | fail) ?_)
  refine d_tail ⟨by kernel_rfl, by kernel_rfl⟩ rfl rfl (ho_perm (bring1 _ _ _) (o_store1 rfl rfl rfl rfl rfl rfl (by omega))) fun _ => ?_
  have hs' : ∀ v, (c.setIfInBounds (1 + k / 64) v).size = 17 := fun v => by simp [hs]
  have hx' : ∀ v : Value, (c.setIfInBounds (1 + k / 64) v)[1 + k / 64]? = some v := fun v => Array.getElem?_setIfInBounds_self_of_lt (by omega)
  have h1' : ∀ y : Nat, oneAll (c.setIfInBounds (1 + k / 64) (.int .u64 y)).toList = true := fun y => by
    rw [oneAll_iff] at h1 ⊢
    intro v hv
    rcases Array.mem_or_eq_of_mem_setIfInBounds (Array.mem_toList_iff.1 hv) with h | h
    · exact h1 v (Array.mem_toList_iff.2 h)
    · rw [h]; rfl
  refine goA ?_
  refine t_cond u rfl rfl (fun h => ?_) (fun h => ?_)
  · refine goA ?_
    refine t_draw 11 (by kernel_rfl) (fun _ h => h.drew) ?_
    (repeat first | (apply d_w [8] rfl rfl rfl (by kernel_rfl) (fun _ h => h); focus (first | exact v_move rfl | exact v_assign rfl | exact v_bt rfl rfl | exact v_extract rfl rfl | exact v_field0 rfl rfl | exact v_field rfl rfl | exact v_lens rfl rfl | exact v_lenstr rfl rfl | exact v_nt rfl | exact v_load1p rfl rfl (by repeat first | exact .head _ | apply List.Mem.tail) | exact v_loadp rfl rfl (by repeat first | exact .head _ | apply List.Mem.tail) rfl | exact v_loada rfl rfl (by repeat first | exact .head _ | apply List.Mem.tail) | exact v_eqb rfl rfl rfl | ((first | refine v_bn rfl rfl ?_ | refine v_is1 rfl rfl rfl ?_ | refine v_ia1 rfl rfl rfl ?_ | refine v_sa rfl rfl rfl ?_ | refine v_sF rfl rfl rfl ?_ | refine v_sT rfl rfl rfl ?_ | refine v_sFT rfl rfl rfl rfl ?_ | refine v_lF rfl rfl rfl rfl ?_ | refine v_is rfl rfl rfl ?_ | refine v_ia rfl rfl rfl ?_); first | omega | assumption) | exact v_pT rfl rfl (by first | omega | assumption | (simp; done) | exact fun h => h (by assumption) | fail) | exact v_pF rfl rfl (by first | omega | assumption | (simp; done) | exact fun h => h (by assumption) | fail) | exact v_pickB rfl rfl rfl)) | refine d_no [8] rfl rfl rfl (by kernel_rfl) (fun _ h => h) ?_ | refine d_T [8] rfl rfl rfl rfl (by first | omega | assumption | (simp; done) | exact fun h => h (by assumption) | fail) ?_ | refine d_F [8] rfl rfl rfl rfl (by first | omega | assumption | (simp; done) | exact fun h => h (by assumption) | fail) ?_)
    refine d_v [] rfl rfl (by kernel_rfl) (fun _ h => h) rfl rfl (v_loadp rfl rfl (.head _) (hx' _)) ?_
    (repeat first | (apply d_w [8] rfl rfl rfl (by kernel_rfl) (fun _ h => h); focus (first | exact v_move rfl | exact v_assign rfl | exact v_bt rfl rfl | exact v_extract rfl rfl | exact v_field0 rfl rfl | exact v_field rfl rfl | exact v_lens rfl rfl | exact v_lenstr rfl rfl | exact v_nt rfl | exact v_load1p rfl rfl (by repeat first | exact .head _ | apply List.Mem.tail) | exact v_loadp rfl rfl (by repeat first | exact .head _ | apply List.Mem.tail) rfl | exact v_loada rfl rfl (by repeat first | exact .head _ | apply List.Mem.tail) | exact v_eqb rfl rfl rfl | ((first | refine v_bn rfl rfl ?_ | refine v_is1 rfl rfl rfl ?_ | refine v_ia1 rfl rfl rfl ?_ | refine v_sa rfl rfl rfl ?_ | refine v_sF rfl rfl rfl ?_ | refine v_sT rfl rfl rfl ?_ | refine v_sFT rfl rfl rfl rfl ?_ | refine v_lF rfl rfl rfl rfl ?_ | refine v_is rfl rfl rfl ?_ | refine v_ia rfl rfl rfl ?_); first | omega | assumption) | exact v_pT rfl rfl (by first | omega | assumption | (simp; done) | exact fun h => h (by assumption) | fail) | exact v_pF rfl rfl (by first | omega | assumption | (simp; done) | exact fun h => h (by assumption) | fail) | exact v_pickB rfl rfl rfl)) | refine d_no [8] rfl rfl rfl (by kernel_rfl) (fun _ h => h) ?_ | refine d_T [8] rfl rfl rfl rfl (by first | omega | assumption | (simp; done) | exact fun h => h (by assumption) | fail) ?_ | refine d_F [8] rfl rfl rfl rfl (by first | omega | assumption | (simp; done) | exact fun h => h (by assumption) | fail) ?_)
    simp only [hpe]
    refine d_v [] rfl rfl (by kernel_rfl) (fun _ h => h) rfl rfl (v_or64 rfl rfl (clr_lt _ hx2) hp) ?_
    (repeat first | (apply d_w [] rfl rfl rfl (by kernel_rfl) (fun _ h => h); focus (first | exact v_move rfl | exact v_assign rfl | exact v_bt rfl rfl | exact v_extract rfl rfl | exact v_field0 rfl rfl | exact v_field rfl rfl | exact v_lens rfl rfl | exact v_lenstr rfl rfl | exact v_nt rfl | exact v_load1p rfl rfl (by repeat first | exact .head _ | apply List.Mem.tail) | exact v_loadp rfl rfl (by repeat first | exact .head _ | apply List.Mem.tail) rfl | exact v_loada rfl rfl (by repeat first | exact .head _ | apply List.Mem.tail) | exact v_eqb rfl rfl rfl | ((first | refine v_bn rfl rfl ?_ | refine v_is1 rfl rfl rfl ?_ | refine v_ia1 rfl rfl rfl ?_ | refine v_sa rfl rfl rfl ?_ | refine v_sF rfl rfl rfl ?_ | refine v_sT rfl rfl rfl ?_ | refine v_sFT rfl rfl rfl rfl ?_ | refine v_lF rfl rfl rfl rfl ?_ | refine v_is rfl rfl rfl ?_ | refine v_ia rfl rfl rfl ?_); first | omega | assumption) | exact v_pT rfl rfl (by first | omega | assumption | (simp; done) | exact fun h => h (by assumption) | fail) | exact v_pF rfl rfl (by first | omega | assumption | (simp; done) | exact fun h => h (by assumption) | fail) | exact v_pickB rfl rfl rfl)) | refine d_no [] rfl rfl rfl (by kernel_rfl) (fun _ h => h) ?_ | refine d_T [] rfl rfl rfl rfl (by first | omega | assumption | (simp; done) | exact fun h => h (by assumption) | fail) ?_ | refine d_F [] rfl rfl rfl rfl (by first | omega | assumption | (simp; done) | exact fun h => h (by assumption) | fail) ?_)
    refine d_tail ⟨by kernel_rfl, by kernel_rfl⟩ rfl rfl (o_store1 rfl rfl rfl rfl rfl rfl (by rw [hs']; omega)) fun _ => ?_
    refine goA ?_
    rw [Array.setIfInBounds_setIfInBounds]
    refine l_w rfl ((v_loada rfl (by rw [hs']; rfl) (.head _))) ?_
    refine l_op rfl (ho_perm (bring1 _ _ _) (o_storea rfl rfl rfl (by rw [hs']; rfl) (h1' _) (hs' _))) fun _ => ?_
    refine goA ?_
    exact x_pu rfl ⟨_, rfl, loada_run (by rw [hs']; rfl) (.head _)⟩ (by rw [h]; rfl)
  · refine goA ?_
    refine l_w rfl ((v_loada rfl (by rw [hs']; rfl) (.head _))) ?_
    refine l_op rfl (ho_perm (bring1 _ _ _) (o_storea rfl rfl rfl (by rw [hs']; rfl) (h1' _) (hs' _))) fun _ => ?_
    refine goA ?_
    exact x_pu rfl ⟨_, rfl, loada_run (by rw [hs']; rfl) (.head _)⟩ (by rw [h]; rfl)
/-! ### Maps, by what is used -/
def mapL (n : Nat) (S : Nat → Bool) : List Value := .int .i64 n :: (List.range 16).map (fun k => .int .u64 (word S k))
def mapC (n : Nat) (S : Nat → Bool) : Array Value := (mapL n S).toArray
theorem mapC_size (n : Nat) (S : Nat → Bool) : (mapC n S).size = 17 := by simp [mapC, mapL]
theorem mapC_0 (n : Nat) (S : Nat → Bool) : (mapC n S)[0]? = some (.int .i64 n) := by simp [mapC, mapL]
theorem mapC_at (n : Nat) (S : Nat → Bool) {k : Nat} (hk : k < 16) : (mapC n S)[1 + k]? = some (.int .u64 (word S k)) := by
  simp only [mapC, mapL, List.getElem?_toArray]
  rw [Nat.add_comm, List.getElem?_cons_succ, List.getElem?_map, List.getElem?_range hk]
  rfl
theorem mapC_one (n : Nat) (S : Nat → Bool) : oneAll (mapC n S).toList = true := by
  rw [oneAll_iff]
  intro v hv
  simp only [mapC, mapL, List.mem_cons, List.mem_map] at hv
  rcases hv with rfl | ⟨_, _, rfl⟩ <;> rfl
theorem mapC_set (n : Nat) (S : Nat → Bool) {k : Nat} (u : Bool) (hk : k < 1024) : (mapC n S).setIfInBounds (1 + k / 64) (.int .u64 (setB (word S (k / 64)) (k % 64) u)) = mapC n (upd S k u) := by
  refine Array.ext_getElem? fun i => ?_
  rw [Array.getElem?_setIfInBounds]
  have h16 : k / 64 < 16 := by omega
  have hw : setB (word S (k / 64)) (k % 64) u = word (upd S k u) (k / 64) := by
    rw [setB_word _ _ _ _ (by omega), show 64 * (k / 64) + k % 64 = k by omega]
  by_cases e : 1 + k / 64 = i
  · subst e
    rw [if_pos rfl, if_pos (by rw [mapC_size]; omega), mapC_at _ _ h16, hw]
  · rw [if_neg e]
    by_cases h0 : i = 0
    · subst h0; rw [mapC_0, mapC_0]
    · by_cases h17 : i < 17
      · obtain ⟨q, rfl⟩ : ∃ q, i = 1 + q := ⟨i - 1, by omega⟩
        rw [mapC_at _ _ (by omega), mapC_at _ _ (by omega), word_upd_other _ _ _ _ (by omega)]
      · rw [Array.getElem?_eq_none (by rw [mapC_size]; omega), Array.getElem?_eq_none (by rw [mapC_size]; omega)]
theorem mapC_zero : mapC 0 (fun _ => false) = #[.int .i64 0, .int .u64 0, .int .u64 0, .int .u64 0, .int .u64 0, .int .u64 0, .int .u64 0, .int .u64 0, .int .u64 0, .int .u64 0, .int .u64 0, .int .u64 0, .int .u64 0, .int .u64 0, .int .u64 0, .int .u64 0, .int .u64 0] := by rfl
def onB (n : Nat) (i : Int) : Bool := decide (0 ≤ i) && decide (i < n)
def setS (n : Nat) (S : Nat → Bool) (i : Int) (u : Bool) : Nat → Bool := bif onB n i then upd S i.toNat u else S
theorem mset_calls (n : Nat) (S : Nat → Bool) (i : Int) (u : Bool) (hn : n ≤ 1024) (w : World) :
    Pu Tryz.prog 57 #[.agg (mapC n S), .int .i64 i, .bool u] w (.agg (mapC n (setS n S i u))) := by
  by_cases h : onB n i = true
  · have h' := h
    simp only [onB, Bool.and_eq_true, decide_eq_true_eq] at h'
    obtain ⟨k, rfl⟩ := Int.eq_ofNat_of_zero_le h'.1
    have := set_in (mapC n S) n k u w (mapC_0 n S) (mapC_size n S) (mapC_one n S) (by omega) hn (word S (k / 64)) (mapC_at n S (by omega)) (word_lt S _)
    rw [mapC_set n S u (by omega)] at this
    simp only [setS, h, cond_true, Int.toNat_natCast]
    exact this
  · have h : onB n i = false := by simpa using h
    have := set_out (mapC n S) n i u w (mapC_0 n S) (mapC_size n S) (mapC_one n S) h
    simp only [setS, h, cond_false]
    exact this
theorem mnew_ok (n : Nat) (h : 1 ≤ n) (h' : n ≤ 1024) (w : World) : Pu Tryz.prog 55 #[.int .i64 n] w (.tuple #[.agg (mapC n (fun _ => false)), .int .i64 0]) := by
  refine pu_of [_] Tryz.func55 rfl rfl ?_
  simp only [argSlots]
  refine goA ?_
  refine l_alloca rfl rfl fun b hb => ?_
  refine goA ?_
  refine l_op rfl (o_storea rfl rfl rfl rfl rfl rfl) fun _ => ?_
  refine goA ?_
  exact x_pu2 rfl ⟨_, rfl, loada_run rfl (.head _)⟩ rfl rfl
theorem bit_word (S : Nat → Bool) (k : Nat) : Value.bool (((word S (k / 64) / 2 ^ (k % 64) % 2 : Nat) : Int) == 1) = .bool (S k) := by
  have h := testBit_word S (k / 64) (k % 64) (by omega)
  rw [show 64 * (k / 64) + k % 64 = k by omega, Nat.testBit_eq_decide_div_mod_eq] at h
  rw [← h]
  congr 1
  rw [Bool.eq_iff_iff]
  simp only [beq_iff_eq, decide_eq_true_eq]
  generalize word S (k / 64) / 2 ^ (k % 64) = q
  omega
theorem has_out (n : Nat) (S : Nat → Bool) (i : Int) (h : onB n i = false) (w : World) : Pu Tryz.prog 72 #[.agg (mapC n S), .int .i64 i] w (.bool true) := by
  refine pu_of [_, _] Tryz.func72 rfl rfl ?_
  simp only [argSlots, Nat.reduceAdd]
  refine goA ?_
  refine l_boxa rfl rfl fun b hb => ?_
  refine goA ?_
  refine l_opg rfl (o_pure rfl (by kernel_rfl) rfl (fun w _ => on_any _ n i w (mapC_0 n S))) fun _ => ?_
  refine l_say 7 _ (.bool false) rfl (congrArg Value.bool h) ?_
  refine goA ?_
  exact x_pu rfl rfl rfl
theorem has_in (n : Nat) (S : Nat → Bool) (k : Nat) (h : k < n) (hn : n ≤ 1024) (w : World) : Pu Tryz.prog 72 #[.agg (mapC n S), .int .i64 k] w (.bool (S k)) := by
  refine pu_of [_, _] Tryz.func72 rfl rfl ?_
  simp only [argSlots, Nat.reduceAdd]
  refine goA ?_
  refine l_boxa rfl rfl fun b hb => ?_
  refine goA ?_
  refine l_opg rfl (o_pure rfl (by kernel_rfl) rfl (fun w _ => on_any _ n k w (mapC_0 n S))) fun _ => ?_
  refine l_say 7 _ (.bool true) rfl (by simp; omega) ?_
  have hk : k / 64 < 16 := by omega
  refine goA ?_
  refine l_w rfl ((v_loadp rfl rfl (.head _) (mapC_at n S hk))) ?_
  refine goA ?_
  refine l_w rfl (v_and1_64 rfl rfl) ?_
  refine goA ?_
  refine x_pu rfl rfl ?_
  rw [bit_word S k]
def hasS (n : Nat) (S : Nat → Bool) (i : Int) : Bool := !onB n i || S i.toNat
theorem mhas_calls (n : Nat) (S : Nat → Bool) (i : Int) (hn : n ≤ 1024) (w : World) : Pu Tryz.prog 72 #[.agg (mapC n S), .int .i64 i] w (.bool (hasS n S i)) := by
  by_cases h : onB n i = true
  · have h' := h
    simp only [onB, Bool.and_eq_true, decide_eq_true_eq] at h'
    obtain ⟨k, rfl⟩ := Int.eq_ofNat_of_zero_le h'.1
    have := has_in n S k (by omega) hn w
    simp only [hasS, h, Bool.not_true, Bool.false_or, Int.toNat_natCast]
    exact this
  · have h : onB n i = false := by simpa using h
    have := has_out n S i h w
    simp only [hasS, h, Bool.not_false, Bool.true_or]
    exact this
theorem ones_calls (f : Nat → Bool) (w : World) : Pu Tryz.prog 111 #[.int .u64 (num f 64)] w (.int .i64 (cnt f 64)) := by
  obtain ⟨b0, b1, b2, b3, b4, b5, b6, b7⟩ := pop_bounds f
  have hp := pop_num f
  unfold pop at hp
  generalize hx0 : num f 64 = x0 at *
  refine pu_of [_] Tryz.func111 rfl rfl ?_
  simp only [argSlots]
  refine t_seq (t_region ?_)
  (repeat (apply l_w rfl; focus (first | exact v_move rfl | exact v_assign rfl | exact v_shr64U rfl rfl (by decide) | exact v_and64C rfl rfl (by assumption) | exact v_addU rfl rfl (by assumption))))
  refine l_nil (x_then (t_seq (t_region ?_)))
  have c0 := half_lt 1 b0
  have d0 : (x0 / 2 ^ 1 &&& 6148914691236517205) + (x0 &&& 6148914691236517205) < 18446744073709551616 := b1
  (repeat (apply l_w rfl; focus (first | exact v_move rfl | exact v_assign rfl | exact v_shr64U rfl rfl (by decide) | exact v_and64C rfl rfl (by assumption) | exact v_addU rfl rfl (by assumption))))
  refine l_say 0 _ (.int .u64 (pop1 x0)) rfl rfl ?_
  generalize pop1 x0 = x1 at *
  refine l_nil (x_then (t_seq (t_region ?_)))
  have c1 := half_lt 2 b1
  have d1 : (x1 / 2 ^ 2 &&& 3689348814741910323) + (x1 &&& 3689348814741910323) < 18446744073709551616 := b2
  (repeat (apply l_w rfl; focus (first | exact v_move rfl | exact v_assign rfl | exact v_shr64U rfl rfl (by decide) | exact v_and64C rfl rfl (by assumption) | exact v_addU rfl rfl (by assumption))))
  refine l_say 0 _ (.int .u64 (pop2 x1)) rfl rfl ?_
  generalize pop2 x1 = x2 at *
  refine l_nil (x_then (t_seq (t_region ?_)))
  have d2 : x2 / 2 ^ 4 + x2 < 18446744073709551616 := b3
  (repeat (apply l_w rfl; focus (first | exact v_move rfl | exact v_assign rfl | exact v_shr64U rfl rfl (by decide) | exact v_and64C rfl rfl (by assumption) | exact v_addU rfl rfl (by assumption))))
  refine l_say 0 _ (.int .u64 (pop3 x2)) rfl rfl ?_
  generalize pop3 x2 = x3 at *
  refine l_nil (x_then (t_seq (t_region ?_)))
  have d3 : x3 + x3 / 2 ^ 8 < 18446744073709551616 := b5
  (repeat (apply l_w rfl; focus (first | exact v_move rfl | exact v_assign rfl | exact v_shr64U rfl rfl (by decide) | exact v_and64C rfl rfl (by assumption) | exact v_addU rfl rfl (by assumption))))
  refine l_say 0 _ (.int .u64 (pop4 x3)) rfl rfl ?_
  generalize pop4 x3 = x4 at *
  refine l_nil (x_then (t_seq (t_region ?_)))
  have d4 : x4 + x4 / 2 ^ 16 < 18446744073709551616 := b6
  (repeat (apply l_w rfl; focus (first | exact v_move rfl | exact v_assign rfl | exact v_shr64U rfl rfl (by decide) | exact v_and64C rfl rfl (by assumption) | exact v_addU rfl rfl (by assumption))))
  refine l_say 0 _ (.int .u64 (pop5 x4)) rfl rfl ?_
  generalize pop5 x4 = x5 at *
  refine l_nil (x_then (t_seq (t_region ?_)))
  have d5 : x5 + x5 / 2 ^ 32 < 18446744073709551616 := b7
  (repeat (apply l_w rfl; focus (first | exact v_move rfl | exact v_assign rfl | exact v_shr64U rfl rfl (by decide) | exact v_and64C rfl rfl (by assumption) | exact v_addU rfl rfl (by assumption))))
  refine l_say 0 _ (.int .u64 (pop6 x5)) rfl rfl ?_
  generalize pop6 x5 = x6 at *
  refine l_nil (x_then (t_seq (t_region ?_)))
  refine l_w rfl ((v_move rfl)) ?_
  refine l_w rfl ((ov fun _ _ _ _ _ => rfl)) ?_
  refine l_w rfl ((v_as (ov fun _ _ _ _ _ => rfl) (congrArg (Value.int .i64) (i64_and_low x6 7 (by decide))))) ?_
  refine goA ?_
  exact x_pu rfl rfl (by rw [← hp])
end Go.Proofs.YtplhamichcnmmaaGreatDoor
