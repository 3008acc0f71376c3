/- The document's constants (armariumref03): Root. -/
import Derived.Test.YtdkonngkbbgcgaaGreatDoorRti
namespace Go.Proofs.YtdkonngkbbgcgaaGreatDoor
open Go.RowKit Go.Eng
set_option maxRecDepth 100000
set_option maxHeartbeats 40000000
/-- The k-th bit from above; behind the last one: 0. -/
def bitN (k : Nat) : Nat := 68719476736 / 2 ^ k
theorem bit_up (k : Nat) : bitN k / 2 = bitN (k + 1) := by rw [bitN, bitN, Nat.div_div_eq_div_mul, Nat.pow_succ]
theorem bit_0 : bitN 0 = 68719476736 := by decide
theorem bit_37 : bitN 37 = 0 := by decide
theorem bit_at {k : Nat} (hk : k ≤ 36) : bitN k = 2 ^ (36 - k) := by
  rw [bitN, show (68719476736 : Nat) = 2 ^ 36 from rfl, Nat.pow_div hk (by decide)]
theorem root_calls (q p : Nat) (hq : q < 65536) (hp : 2 ≤ p ∧ p ≤ 3) (w : World) : Pu Tryz.prog 19 #[.int .u64 q, .int .i64 p] w (.int .u32 (rootOf q p : Nat)) := by
  refine pu_of [_, _] Tryz.func19 rfl rfl ?_
  simp only [argSlots, Nat.reduceAdd]
  (repeat first | with_reducible (first | apply t_seq | apply t_region | apply t_block | apply t_ret | apply t_skip | apply t_exit | apply l_nil | apply x_then | apply x_pass_exit | apply x_pass_ret | apply x_block_ret | apply x_block_normal | apply x_block_here | apply x_block_out rfl) | refine lAv rfl ?_ | refine l_no rfl ?_ | refine tT rfl rfl ?_ | refine tF rfl rfl ?_ | refine lT rfl rfl ?_ | refine lF rfl rfl ?_)
  refine l_alloca rfl rfl fun b5 hb5 => ?_
  (repeat first | with_reducible (first | apply t_seq | apply t_region | apply t_block | apply t_ret | apply t_skip | apply t_exit | apply l_nil | apply x_then | apply x_pass_exit | apply x_pass_ret | apply x_block_ret | apply x_block_normal | apply x_block_here | apply x_block_out rfl) | refine lAv rfl ?_ | refine l_no rfl ?_ | refine tT rfl rfl ?_ | refine tF rfl rfl ?_ | refine lT rfl rfl ?_ | refine lF rfl rfl ?_)
  refine l_op rfl (o_store1 rfl rfl rfl rfl rfl rfl (by simp; omega)) fun _ => ?_
  (repeat first | with_reducible (first | apply t_seq | apply t_region | apply t_block | apply t_ret | apply t_skip | apply t_exit | apply l_nil | apply x_then | apply x_pass_exit | apply x_pass_ret | apply x_block_ret | apply x_block_normal | apply x_block_here | apply x_block_out rfl) | refine lAv rfl ?_ | refine l_no rfl ?_ | refine tT rfl rfl ?_ | refine tF rfl rfl ?_ | refine lT rfl rfl ?_ | refine lF rfl rfl ?_)
  have hd0 : Dig (List.replicate 9 0) := ⟨rfl, fun i => by
      rw [List.getD_eq_getElem?_getD, List.getElem?_replicate]; split <;> decide⟩
  have hd := dig_set hd0 (2 * p) hq
  have hres : rootOf q p = rootF ((List.replicate 9 0).set (2 * p) q) p 37 % 4294967296 := rfl
  rw [hres]
  refine t_for (α := Nat) (fun k => [(0, .int .u64 q), (1, .int .i64 p), (5, .pointer (some ⟨b5, 0, none⟩)), (6, .int .u64 (rootF ((List.replicate 9 0).set (2 * p) q) p k : Nat)), (7, .int .u64 (bitN k : Nat))]) (fun k => k ≤ 37)
    (fun _ => [wdP b5 ((List.replicate 9 0).set (2 * p) q)]) (fun k => 37 - k) 0 ⟨rfl, rfl, rfl, rfl, by rw [bit_0]; rfl, trivial⟩ (Nat.zero_le _) (fun w' hw' => by
      rw [Nat.zero_add] at hw'
      show Hp w none' [pt b5 (.cells (u64V ((List.replicate 9 0).set (2 * p) q)).toArray _ (0, 0))] w'
      rw [← u64_set]
      exact hw') fun k hk => ?_
  have hl := rootN_lt (val ((List.replicate 9 0).set (2 * p) q)) p k hk
  rw [← root_is hd (by omega) k hk] at hl
  have hup := bit_up k
  by_cases hk2 : k < 37
  · have hbit := bit_at (k := k) (by omega)
    have hst : rootF ((List.replicate 9 0).set (2 * p) q) p (k + 1) = if lessF ((List.replicate 9 0).set (2 * p) q) (powF (wideF (rootF ((List.replicate 9 0).set (2 * p) q) p k + 2 ^ (36 - k))) (p - 1)) 9 then rootF ((List.replicate 9 0).set (2 * p) q) p k else rootF ((List.replicate 9 0).set (2 * p) q) p k + 2 ^ (36 - k) := rfl
    have hpos : 0 < 2 ^ (36 - k) := Nat.two_pow_pos _
    have e2 : 2 ^ (37 - k) = 2 ^ (36 - k) + 2 ^ (36 - k) := by
      rw [show 37 - k = (36 - k) + 1 by omega, Nat.pow_succ]; omega
    rw [hbit] at hup ⊢
    generalize hN : (List.replicate 9 0).set (2 * p) q = N at hd hl hst ⊢
    generalize rootF N p k = r at hl hst ⊢
    generalize 2 ^ (36 - k) = B at hpos e2 hup hst ⊢
    rw [e2] at hl
    have hw0 := val_wide (r + B) (by unfold M64; omega)
    have hdw := dig_wide (r + B)
    have hpw := pow_is hdw (by rw [hw0]; omega)
    have hln : (u64V N).length = 9 := by rw [u64V_len, hd.1]
    (repeat first | with_reducible (first | apply t_seq | apply t_region | apply t_block | apply t_ret | apply t_skip | apply t_exit | apply l_nil | apply x_then | apply x_pass_exit | apply x_pass_ret | apply x_block_ret | apply x_block_normal | apply x_block_here | apply x_block_out rfl) | refine lAv rfl ?_ | refine l_no rfl ?_ | refine tT rfl rfl ?_ | refine tF rfl rfl ?_ | refine lT rfl rfl ?_ | refine lF rfl rfl ?_)
    refine l_opg rfl (o_pure rfl (by kernel_rfl) rfl (fun w1 hw1 => rwide_calls (r + B) (by omega) w1)) fun _ => ?_
    (repeat first | with_reducible (first | apply t_seq | apply t_region | apply t_block | apply t_ret | apply t_skip | apply t_exit | apply l_nil | apply x_then | apply x_pass_exit | apply x_pass_ret | apply x_block_ret | apply x_block_normal | apply x_block_here | apply x_block_out rfl) | refine lAv rfl ?_ | refine l_no rfl ?_ | refine tT rfl rfl ?_ | refine tF rfl rfl ?_ | refine lT rfl rfl ?_ | refine lF rfl rfl ?_)
    generalize wideF (r + B) = x at hst hw0 hdw hpw ⊢
    have hlx : (u64V x).length = 9 := by rw [u64V_len, hdw.1]
    refine l_alloca rfl rfl fun b8 hb8 => ?_
    refine l_op rfl (o_storea (cs' := (u64V x).toArray) rfl rfl rfl (by rw [List.size_toArray, hlx]; rfl) (u64_one _) (by rw [List.size_toArray, hlx]; rfl)) fun _ => ?_
    (repeat first | with_reducible (first | apply t_seq | apply t_region | apply t_block | apply t_ret | apply t_skip | apply t_exit | apply l_nil | apply x_then | apply x_pass_exit | apply x_pass_ret | apply x_block_ret | apply x_block_normal | apply x_block_here | apply x_block_out rfl) | refine lAv rfl ?_ | refine l_no rfl ?_ | refine tT rfl rfl ?_ | refine tF rfl rfl ?_ | refine lT rfl rfl ?_ | refine lF rfl rfl ?_)
    refine l_w rfl (v_loada rfl (by rw [List.size_toArray, hlx]; rfl) (.head _)) ?_
    refine l_alloca rfl rfl fun b9 hb9 => ?_
    refine l_op rfl (o_storea (cs' := (u64V x).toArray) rfl rfl rfl (by rw [List.size_toArray, hlx]; rfl) (u64_one _) (by rw [List.size_toArray, hlx]; rfl)) fun _ => ?_
    (repeat first | with_reducible (first | apply t_seq | apply t_region | apply t_block | apply t_ret | apply t_skip | apply t_exit | apply l_nil | apply x_then | apply x_pass_exit | apply x_pass_ret | apply x_block_ret | apply x_block_normal | apply x_block_here | apply x_block_out rfl) | refine lAv rfl ?_ | refine l_no rfl ?_ | refine tT rfl rfl ?_ | refine tF rfl rfl ?_ | refine lT rfl rfl ?_ | refine lF rfl rfl ?_)
    refine t_for (α := Nat) (fun j => [(0, .int .u64 q), (1, .int .i64 p), (5, .pointer (some ⟨b5, 0, none⟩)), (6, .int .u64 (r : Nat)), (7, .int .u64 (B : Nat)), (8, .pointer (some ⟨b8, 0, none⟩)), (9, .pointer (some ⟨b9, 0, none⟩)), (10, .int .i64 ((j + 1 : Nat)))]) (fun j => j + 1 ≤ p)
      (fun j => [wdP b9 (powF x j), wdP b8 x, wdP b5 N]) (fun j => p - j) 0 ⟨rfl, rfl, rfl, rfl, rfl, rfl, rfl, rfl, trivial⟩ (by omega) (fun w' hw' => hw') fun j hj => ?_
    by_cases hj2 : j + 1 < p
    · have hdj := (hpw j (by omega)).1
      have hdt := (times_is hdj hdw).1
      have hup2 : powF x (j + 1) = timesF (powF x j) x := rfl
      generalize powF x j = y at hdj hdt hup2 ⊢
      have hly : (u64V y).length = 9 := by rw [u64V_len, hdj.1]
      have hlt : (u64V (timesF y x)).length = 9 := by rw [u64V_len, hdt.1]
      (repeat first | with_reducible (first | apply t_seq | apply t_region | apply t_block | apply t_ret | apply t_skip | apply t_exit | apply l_nil | apply x_then | apply x_pass_exit | apply x_pass_ret | apply x_block_ret | apply x_block_normal | apply x_block_here | apply x_block_out rfl) | refine lAv rfl ?_ | refine l_no rfl ?_ | refine tT rfl rfl ?_ | refine tF rfl rfl ?_ | refine lT rfl rfl ?_ | refine lF rfl rfl ?_)
      refine l_w rfl (v_loada rfl (by rw [List.size_toArray, hly]; rfl) (.head _)) ?_
      refine l_w rfl (v_loada rfl (by rw [List.size_toArray, hlx]; rfl) (.tail _ (.head _))) ?_
      refine l_opg rfl (o_pure rfl (by kernel_rfl) rfl (fun w1 hw1 => times_calls y x hdj hdw w1)) fun _ => ?_
      generalize timesF y x = tt at hdt hlt hup2 ⊢
      refine l_op rfl (o_storea (cs' := (u64V tt).toArray) rfl rfl rfl (by rw [List.size_toArray, hlt]; rfl) (u64_one _) (by rw [List.size_toArray, List.size_toArray, hlt, hly])) fun _ => ?_
      (repeat first | with_reducible (first | apply t_seq | apply t_region | apply t_block | apply t_ret | apply t_skip | apply t_exit | apply l_nil | apply x_then | apply x_pass_exit | apply x_pass_ret | apply x_block_ret | apply x_block_normal | apply x_block_here | apply x_block_out rfl) | refine lAv rfl ?_ | refine l_no rfl ?_ | refine tT rfl rfl ?_ | refine tF rfl rfl ?_ | refine lT rfl rfl ?_ | refine lF rfl rfl ?_)
      exact x_round (j + 1) ⟨rfl, rfl, rfl, rfl, rfl, rfl, rfl, rfl, trivial⟩ hj2 (fun w' hw' => by rw [hup2]; exact hw') (by omega)
    · obtain rfl : j = p - 1 := by omega
      have hdj := (hpw (p - 1) (by omega)).1
      generalize powF x (p - 1) = y at hdj hst ⊢
      have hly : (u64V y).length = 9 := by rw [u64V_len, hdj.1]
      (repeat first | with_reducible (first | apply t_seq | apply t_region | apply t_block | apply t_ret | apply t_skip | apply t_exit | apply l_nil | apply x_then | apply x_pass_exit | apply x_pass_ret | apply x_block_ret | apply x_block_normal | apply x_block_here | apply x_block_out rfl) | refine lAv rfl ?_ | refine l_no rfl ?_ | refine tT rfl rfl ?_ | refine tF rfl rfl ?_ | refine lT rfl rfl ?_ | refine lF rfl rfl ?_)
      refine l_w rfl (v_loada rfl (by rw [List.size_toArray, hln]; rfl) (.tail _ (.tail _ (.head _)))) ?_
      refine l_w rfl (v_loada rfl (by rw [List.size_toArray, hly]; rfl) (.head _)) ?_
      refine l_opg rfl (o_pure rfl (by kernel_rfl) rfl (fun w1 hw1 => less_calls N y hd hdj w1)) fun _ => ?_
      (repeat first | with_reducible (first | apply t_seq | apply t_region | apply t_block | apply t_ret | apply t_skip | apply t_exit | apply l_nil | apply x_then | apply x_pass_exit | apply x_pass_ret | apply x_block_ret | apply x_block_normal | apply x_block_here | apply x_block_out rfl) | refine lAv rfl ?_ | refine l_no rfl ?_ | refine tT rfl rfl ?_ | refine tF rfl rfl ?_ | refine lT rfl rfl ?_ | refine lF rfl rfl ?_)
      cases hc : lessF N y 9 with
      | true =>
        rw [hc, if_pos rfl] at hst
        (repeat first | with_reducible (first | apply t_seq | apply t_region | apply t_block | apply t_ret | apply t_skip | apply t_exit | apply l_nil | apply x_then | apply x_pass_exit | apply x_pass_ret | apply x_block_ret | apply x_block_normal | apply x_block_here | apply x_block_out rfl) | refine lAv rfl ?_ | refine l_no rfl ?_ | refine tT rfl rfl ?_ | refine tF rfl rfl ?_ | refine lT rfl rfl ?_ | refine lF rfl rfl ?_)
        exact x_round (k + 1) ⟨rfl, rfl, rfl, by rw [hst]; rfl, by rw [← hup]; rfl, trivial⟩ hk2 (fun w' hw' => hw'.sub (.cons _ (.cons _ (.refl _)))) (by omega)
      | false =>
        rw [hc, if_neg (by decide)] at hst
        (repeat first | with_reducible (first | apply t_seq | apply t_region | apply t_block | apply t_ret | apply t_skip | apply t_exit | apply l_nil | apply x_then | apply x_pass_exit | apply x_pass_ret | apply x_block_ret | apply x_block_normal | apply x_block_here | apply x_block_out rfl) | refine lAv rfl ?_ | refine l_no rfl ?_ | refine tT rfl rfl ?_ | refine tF rfl rfl ?_ | refine lT rfl rfl ?_ | refine lF rfl rfl ?_)
        exact x_round (k + 1) ⟨rfl, rfl, rfl, by rw [hst]; rfl, by rw [← hup]; rfl, trivial⟩ hk2 (fun w' hw' => hw'.sub (.cons _ (.cons _ (.refl _)))) (by omega)
  · obtain rfl : k = 37 := by omega
    rw [bit_37]
    clear hup hk hk2
    generalize rootF ((List.replicate 9 0).set (2 * p) q) p 37 = r at hl ⊢
    (repeat first | with_reducible (first | apply t_seq | apply t_region | apply t_block | apply t_ret | apply t_skip | apply t_exit | apply l_nil | apply x_then | apply x_pass_exit | apply x_pass_ret | apply x_block_ret | apply x_block_normal | apply x_block_here | apply x_block_out rfl) | refine lAv rfl ?_ | refine l_no rfl ?_ | refine tT rfl rfl ?_ | refine tF rfl rfl ?_ | refine lT rfl rfl ?_ | refine lF rfl rfl ?_)
    exact x_pu rfl rfl rfl
end Go.Proofs.YtdkonngkbbgcgaaGreatDoor
