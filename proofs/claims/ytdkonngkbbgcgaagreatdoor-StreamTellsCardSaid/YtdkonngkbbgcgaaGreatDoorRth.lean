/- The document's constants (armariumref03): numbers of nine groups, roots. -/
import Derived.Test.YtdkonngkbbgcgaaGreatDoorPka
import Derived.Test.YtdkonngkbbgcgaaGreatDoorGc
namespace Go.Proofs.YtdkonngkbbgcgaaGreatDoor
open Go.RowKit Go.Eng
set_option maxRecDepth 100000
set_option maxHeartbeats 40000000
/-- Numbers of 64 bits as cells. -/
def u64V (l : List Nat) : List Value := l.map fun n : Nat => Value.int .u64 (n : Int)
theorem u64V_len (l : List Nat) : (u64V l).length = l.length := by simp [u64V]
theorem u64_at (l : List Nat) {i : Nat} (h : i < l.length) : (u64V l).toArray[i]? = some (.int .u64 (l.getD i 0 : Nat)) := by
  simp [u64V, h, List.getD_eq_getElem?_getD]
theorem u64_set (l : List Nat) (i n : Nat) : (u64V l).toArray.setIfInBounds i (.int .u64 (n : Int)) = (u64V (l.set i n)).toArray := by
  rw [List.setIfInBounds_toArray]
  simp [u64V, List.map_set]
theorem u64_one (l : List Nat) : oneAll (u64V l) = true := by
  rw [oneAll_iff]
  intro v hv
  simp only [u64V, List.mem_map] at hv
  obtain ⟨n, -, rfl⟩ := hv
  rfl
/-- A number in memory. -/
abbrev wdP (b : Nat) (l : List Nat) : Eng.Item := pt b (.cells (u64V l).toArray 113 (0, 0))
theorem times_calls (a b : List Nat) (ha : Dig a) (hb : Dig b) (w : World) : Pu Tryz.prog 47 #[.agg (u64V a).toArray, .agg (u64V b).toArray] w (.agg (u64V (timesF a b)).toArray) := by
  refine pu_of [_, _] Tryz.func47 rfl rfl ?_
  simp only [argSlots, Nat.reduceAdd]
  (repeat first | with_reducible (first | apply t_seq | apply t_region | apply t_block | apply t_ret | apply t_skip | apply t_exit | apply l_nil | apply x_then | apply x_pass_exit | apply x_pass_ret | apply x_block_ret | apply x_block_normal | apply x_block_here | apply x_block_out rfl) | refine lAv rfl ?_ | refine l_no rfl ?_ | refine tT rfl rfl ?_ | refine tF rfl rfl ?_ | refine lT rfl rfl ?_ | refine lF rfl rfl ?_)
  refine l_boxa rfl rfl fun b2 hb2 => ?_
  (repeat first | with_reducible (first | apply t_seq | apply t_region | apply t_block | apply t_ret | apply t_skip | apply t_exit | apply l_nil | apply x_then | apply x_pass_exit | apply x_pass_ret | apply x_block_ret | apply x_block_normal | apply x_block_here | apply x_block_out rfl) | refine lAv rfl ?_ | refine l_no rfl ?_ | refine tT rfl rfl ?_ | refine tF rfl rfl ?_ | refine lT rfl rfl ?_ | refine lF rfl rfl ?_)
  refine l_boxa rfl rfl fun b3 hb3 => ?_
  (repeat first | with_reducible (first | apply t_seq | apply t_region | apply t_block | apply t_ret | apply t_skip | apply t_exit | apply l_nil | apply x_then | apply x_pass_exit | apply x_pass_ret | apply x_block_ret | apply x_block_normal | apply x_block_here | apply x_block_out rfl) | refine lAv rfl ?_ | refine l_no rfl ?_ | refine tT rfl rfl ?_ | refine tF rfl rfl ?_ | refine lT rfl rfl ?_ | refine lF rfl rfl ?_)
  refine l_alloca rfl rfl fun b4 hb4 => ?_
  (repeat first | with_reducible (first | apply t_seq | apply t_region | apply t_block | apply t_ret | apply t_skip | apply t_exit | apply l_nil | apply x_then | apply x_pass_exit | apply x_pass_ret | apply x_block_ret | apply x_block_normal | apply x_block_here | apply x_block_out rfl) | refine lAv rfl ?_ | refine l_no rfl ?_ | refine tT rfl rfl ?_ | refine tF rfl rfl ?_ | refine lT rfl rfl ?_ | refine lF rfl rfl ?_)
  refine l_alloca rfl rfl fun b5 hb5 => ?_
  (repeat first | with_reducible (first | apply t_seq | apply t_region | apply t_block | apply t_ret | apply t_skip | apply t_exit | apply l_nil | apply x_then | apply x_pass_exit | apply x_pass_ret | apply x_block_ret | apply x_block_normal | apply x_block_here | apply x_block_out rfl) | refine lAv rfl ?_ | refine l_no rfl ?_ | refine tT rfl rfl ?_ | refine tF rfl rfl ?_ | refine lT rfl rfl ?_ | refine lF rfl rfl ?_)
  refine t_pick (m' := [wdP b5 (tOut a b 0), wdP b4 (List.replicate 9 0), wdP b3 b, wdP b2 a]) [0, 1, 2, 3] rfl rfl ?_
  refine t_for (α := Nat) (fun i => [(2, .pointer (some ⟨b2, 0, none⟩)), (3, .pointer (some ⟨b3, 0, none⟩)), (4, .pointer (some ⟨b4, 0, none⟩)), (5, .pointer (some ⟨b5, 0, none⟩)), (6, .int .i64 i)]) (fun i => i ≤ 9)
    (fun i => [wdP b5 (tOut a b i), wdP b4 (List.replicate 9 0), wdP b3 b, wdP b2 a]) (fun i => 9 - i) 0 ⟨rfl, rfl, rfl, rfl, rfl, trivial⟩ (Nat.zero_le _) (fun w' hw' => hw') fun i hi => ?_
  have hdo := (tOut_is ha hb i hi).1
  by_cases hi2 : i < 9
  · have hnx : tOut a b (i + 1) = (tIn a b i (tOut a b i) (9 - i)).1 := rfl
    generalize tOut a b i = o at hdo hnx ⊢
    have hai := ha.2 i
    have hla : i < a.length := by rw [ha.1]; exact hi2
    have hca := u64_at a hla
    generalize hA : a.getD i 0 = x at hai hca
    (repeat first | with_reducible (first | apply t_seq | apply t_region | apply t_block | apply t_ret | apply t_skip | apply t_exit | apply l_nil | apply x_then | apply x_pass_exit | apply x_pass_ret | apply x_block_ret | apply x_block_normal | apply x_block_here | apply x_block_out rfl) | refine lAv rfl ?_ | refine l_no rfl ?_ | refine tT rfl rfl ?_ | refine tF rfl rfl ?_ | refine lT rfl rfl ?_ | refine lF rfl rfl ?_)
    refine t_for (α := Nat) (fun k => [(2, .pointer (some ⟨b2, 0, none⟩)), (3, .pointer (some ⟨b3, 0, none⟩)), (4, .pointer (some ⟨b4, 0, none⟩)), (5, .pointer (some ⟨b5, 0, none⟩)), (6, .int .i64 i), (7, .int .u64 ((tIn a b i o k).2 : Nat)), (8, .int .i64 k)]) (fun k => i + k ≤ 9)
      (fun k => [wdP b5 (tIn a b i o k).1, wdP b4 (List.replicate 9 0), wdP b3 b, wdP b2 a]) (fun k => 9 - k) 0 ⟨rfl, rfl, rfl, rfl, rfl, rfl, rfl, trivial⟩ (by omega) (fun w' hw' => hw') fun k hk => ?_
    obtain ⟨hdi, hcr, -⟩ := tIn_is ha hb hdo i k hk
    by_cases hk2 : i + k < 9
    · have hup : tIn a b i o (k + 1) = ((tIn a b i o k).1.set (i + k) ((((tIn a b i o k).1.getD (i + k) 0 + x * b.getD k 0 % M64) % M64 + (tIn a b i o k).2) % M64 % 65536), (((tIn a b i o k).1.getD (i + k) 0 + x * b.getD k 0 % M64) % M64 + (tIn a b i o k).2) % M64 / 65536) := by rw [← hA]; rfl
      generalize tIn a b i o k = q at hdi hcr hup ⊢
      obtain ⟨q1, q2⟩ := q
      simp only at hdi hcr hup ⊢
      have hbk := hb.2 k
      have hcb := u64_at b (i := k) (by rw [hb.1]; omega)
      have hqk := hdi.2 (i + k)
      have hcq := u64_at q1 (i := i + k) (by rw [hdi.1]; exact hk2)
      generalize b.getD k 0 = y at hbk hcb hup
      generalize q1.getD (i + k) 0 = z at hqk hcq hup
      have hxy : x * y < 4294967296 := by
        have h1 : x * y ≤ 65535 * 65535 := Nat.mul_le_mul (by omega) (by omega)
        omega
      have hsum : ((z + x * y % M64) % M64 + q2) % M64 = z + x * y + q2 := by
        unfold M64
        rw [Nat.mod_eq_of_lt (show x * y < 18446744073709551616 by omega), Nat.mod_eq_of_lt (show z + x * y < 18446744073709551616 by omega), Nat.mod_eq_of_lt (by omega)]
      rw [hsum] at hup
      have hsz : (u64V q1).length = 9 := by rw [u64V_len, hdi.1]
      clear hsum hnx hdo hA
      (repeat first | with_reducible (first | apply t_seq | apply t_region | apply t_block | apply t_ret | apply t_skip | apply t_exit | apply l_nil | apply x_then | apply x_pass_exit | apply x_pass_ret | apply x_block_ret | apply x_block_normal | apply x_block_here | apply x_block_out rfl) | refine lAv rfl ?_ | refine l_no rfl ?_ | refine tT rfl rfl ?_ | refine tF rfl rfl ?_ | refine lT rfl rfl ?_ | refine lF rfl rfl ?_)
      refine t_drawp (by kernel_rfl) ?_
      (repeat first | refine dAv [4, 7, 10] rfl rfl rfl ?_ | refine dno [4, 7, 10] rfl rfl rfl ?_ | refine dT [4, 7, 10] rfl rfl rfl rfl ?_ | refine dF [4, 7, 10] rfl rfl rfl rfl ?_)
      refine d_v [7, 10] rfl rfl (by kernel_rfl) (fun _ h => by first | exact h | exact Hp.sub h (.cons _ (.refl _)) | exact Hp.sub h (.cons _ (.cons _ (.refl _))) | exact Hp.sub h (.cons _ (.cons _ (.cons _ (.refl _)))) | exact Hp.sub h (.cons _ (.cons _ (.cons _ (.cons _ (.refl _))))) | exact Hp.sub h (.cons _ (.cons _ (.cons _ (.cons _ (.cons _ (.refl _)))))) | exact Hp.sub h (.cons _ (.cons _ (.cons _ (.cons _ (.cons _ (.cons _ (.refl _)))))))) rfl rfl (v_loadp rfl rfl (.head _) (by rw [Nat.zero_add]; exact hcq)) ?_
      refine d_v [10] rfl rfl (by kernel_rfl) (fun _ h => by first | exact h | exact Hp.sub h (.cons _ (.refl _)) | exact Hp.sub h (.cons _ (.cons _ (.refl _))) | exact Hp.sub h (.cons _ (.cons _ (.cons _ (.refl _)))) | exact Hp.sub h (.cons _ (.cons _ (.cons _ (.cons _ (.refl _))))) | exact Hp.sub h (.cons _ (.cons _ (.cons _ (.cons _ (.cons _ (.refl _)))))) | exact Hp.sub h (.cons _ (.cons _ (.cons _ (.cons _ (.cons _ (.cons _ (.refl _)))))))) rfl rfl (v_loadp rfl rfl (.tail _ (.tail _ (.tail _ (.head _)))) (by rw [Nat.zero_add]; exact hca)) ?_
      refine d_v [] rfl rfl (by kernel_rfl) (fun _ h => by first | exact h | exact Hp.sub h (.cons _ (.refl _)) | exact Hp.sub h (.cons _ (.cons _ (.refl _))) | exact Hp.sub h (.cons _ (.cons _ (.cons _ (.refl _)))) | exact Hp.sub h (.cons _ (.cons _ (.cons _ (.cons _ (.refl _))))) | exact Hp.sub h (.cons _ (.cons _ (.cons _ (.cons _ (.cons _ (.refl _)))))) | exact Hp.sub h (.cons _ (.cons _ (.cons _ (.cons _ (.cons _ (.cons _ (.refl _)))))))) rfl rfl (v_loadp rfl rfl (.tail _ (.tail _ (.head _))) (by rw [Nat.zero_add]; exact hcb)) ?_
      (repeat first | refine dAv [] rfl rfl rfl ?_ | refine dno [] rfl rfl rfl ?_ | refine dT [] rfl rfl rfl rfl ?_ | refine dF [] rfl rfl rfl rfl ?_)
      refine d_end (by kernel_rfl) ?_
      (repeat first | with_reducible (first | apply t_seq | apply t_region | apply t_block | apply t_ret | apply t_skip | apply t_exit | apply l_nil | apply x_then | apply x_pass_exit | apply x_pass_ret | apply x_block_ret | apply x_block_normal | apply x_block_here | apply x_block_out rfl) | refine lAv rfl ?_ | refine l_no rfl ?_ | refine tT rfl rfl ?_ | refine tF rfl rfl ?_ | refine lT rfl rfl ?_ | refine lF rfl rfl ?_)
      refine l_op rfl (o_store1 rfl rfl rfl rfl rfl rfl (by rw [List.size_toArray, hsz]; omega)) fun _ => ?_
      rw [Nat.zero_add, u64_set]
      (repeat first | with_reducible (first | apply t_seq | apply t_region | apply t_block | apply t_ret | apply t_skip | apply t_exit | apply l_nil | apply x_then | apply x_pass_exit | apply x_pass_ret | apply x_block_ret | apply x_block_normal | apply x_block_here | apply x_block_out rfl) | refine lAv rfl ?_ | refine l_no rfl ?_ | refine tT rfl rfl ?_ | refine tF rfl rfl ?_ | refine lT rfl rfl ?_ | refine lF rfl rfl ?_)
      exact x_round (k + 1) ⟨rfl, rfl, rfl, rfl, rfl, by rw [hup]; rfl, rfl, trivial⟩ (by omega) (fun w' hw' => by rw [hup]; exact hw') (by omega)
    · obtain rfl : k = 9 - i := by omega
      rw [← hnx]
      (repeat first | with_reducible (first | apply t_seq | apply t_region | apply t_block | apply t_ret | apply t_skip | apply t_exit | apply l_nil | apply x_then | apply x_pass_exit | apply x_pass_ret | apply x_block_ret | apply x_block_normal | apply x_block_here | apply x_block_out rfl) | refine lAv rfl ?_ | refine l_no rfl ?_ | refine tT rfl rfl ?_ | refine tF rfl rfl ?_ | refine lT rfl rfl ?_ | refine lF rfl rfl ?_)
      exact x_round (i + 1) ⟨rfl, rfl, rfl, rfl, rfl, trivial⟩ hi2 (fun w' hw' => hw') (by omega)
  · obtain rfl : i = 9 := by omega
    have hl9 : (u64V (tOut a b 9)).length = 9 := by rw [u64V_len, hdo.1]
    rw [show timesF a b = tOut a b 9 from rfl]
    generalize tOut a b 9 = o at hdo hl9 ⊢
    (repeat first | with_reducible (first | apply t_seq | apply t_region | apply t_block | apply t_ret | apply t_skip | apply t_exit | apply l_nil | apply x_then | apply x_pass_exit | apply x_pass_ret | apply x_block_ret | apply x_block_normal | apply x_block_here | apply x_block_out rfl) | refine lAv rfl ?_ | refine l_no rfl ?_ | refine tT rfl rfl ?_ | refine tF rfl rfl ?_ | refine lT rfl rfl ?_ | refine lF rfl rfl ?_)
    refine l_w rfl (v_loada rfl (by rw [List.size_toArray, hl9]; rfl) (.head _)) ?_
    refine l_op rfl (ho_perm (bring1 _ _ _) (o_storea (cs' := (u64V o).toArray) rfl rfl rfl (by rw [List.size_toArray, hl9]; rfl) (u64_one _) (by rw [List.size_toArray, hl9]; rfl))) fun _ => ?_
    (repeat first | with_reducible (first | apply t_seq | apply t_region | apply t_block | apply t_ret | apply t_skip | apply t_exit | apply l_nil | apply x_then | apply x_pass_exit | apply x_pass_ret | apply x_block_ret | apply x_block_normal | apply x_block_here | apply x_block_out rfl) | refine lAv rfl ?_ | refine l_no rfl ?_ | refine tT rfl rfl ?_ | refine tF rfl rfl ?_ | refine lT rfl rfl ?_ | refine lF rfl rfl ?_)
    exact x_pu rfl ⟨_, rfl, loada_run (by rw [List.size_toArray, hl9]; rfl) (.head _)⟩ rfl
end Go.Proofs.YtdkonngkbbgcgaaGreatDoor
