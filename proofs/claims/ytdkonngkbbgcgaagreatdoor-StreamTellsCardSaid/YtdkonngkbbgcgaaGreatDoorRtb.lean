/- The document's chunks (armariumref12): height, size, may. -/
import Derived.Test.YtdkonngkbbgcgaaGreatDoorRta
namespace Go.Proofs.YtdkonngkbbgcgaaGreatDoor
open Go.RowKit Go.Eng
set_option maxRecDepth 100000
set_option maxHeartbeats 40000000
theorem num12_calls (wd n : Nat) (hw : wd = 1 ∨ wd = 2 ∨ wd = 4 ∨ wd = 8) (hn : n < 18446744073709551616) (w : World) : Pu Tryz.prog 80 #[.int .i64 wd, .int .u64 n] w (.string ⟨(beN wd n).toArray⟩) := by
  refine pu_of [_, _] Tryz.func80 rfl rfl ?_
  simp only [argSlots, Nat.reduceAdd]
  (repeat first | with_reducible (first | apply t_seq | apply t_region | apply t_block | apply t_ret | apply t_skip | apply t_exit | apply l_nil | apply x_then | apply x_pass_exit | apply x_pass_ret | apply x_block_ret | apply x_block_normal | apply x_block_here | apply x_block_out rfl) | refine lAv rfl ?_ | refine l_no rfl ?_ | refine tT rfl rfl ?_ | refine tF rfl rfl ?_ | refine lT rfl rfl ?_ | refine lF rfl rfl ?_)
  refine l_opg rfl (o_pure rfl (by kernel_rfl) rfl (fun w1 hw1 => num_calls wd n hw hn w1)) fun _ => ?_
  (repeat first | with_reducible (first | apply t_seq | apply t_region | apply t_block | apply t_ret | apply t_skip | apply t_exit | apply l_nil | apply x_then | apply x_pass_exit | apply x_pass_ret | apply x_block_ret | apply x_block_normal | apply x_block_here | apply x_block_out rfl) | refine lAv rfl ?_ | refine l_no rfl ?_ | refine tT rfl rfl ?_ | refine tF rfl rfl ?_ | refine lT rfl rfl ?_ | refine lF rfl rfl ?_)
  exact x_pu rfl rfl rfl
theorem num33_calls (wd n : Nat) (hw : wd = 1 ∨ wd = 2 ∨ wd = 4 ∨ wd = 8) (hn : n < 18446744073709551616) (w : World) : Pu Tryz.prog 31 #[.int .i64 wd, .int .u64 n] w (.string ⟨(beN wd n).toArray⟩) := by
  refine pu_of [_, _] Tryz.func31 rfl rfl ?_
  simp only [argSlots, Nat.reduceAdd]
  (repeat first | with_reducible (first | apply t_seq | apply t_region | apply t_block | apply t_ret | apply t_skip | apply t_exit | apply l_nil | apply x_then | apply x_pass_exit | apply x_pass_ret | apply x_block_ret | apply x_block_normal | apply x_block_here | apply x_block_out rfl) | refine lAv rfl ?_ | refine l_no rfl ?_ | refine tT rfl rfl ?_ | refine tF rfl rfl ?_ | refine lT rfl rfl ?_ | refine lF rfl rfl ?_)
  refine l_opg rfl (o_pure rfl (by kernel_rfl) rfl (fun w1 hw1 => num_calls wd n hw hn w1)) fun _ => ?_
  (repeat first | with_reducible (first | apply t_seq | apply t_region | apply t_block | apply t_ret | apply t_skip | apply t_exit | apply l_nil | apply x_then | apply x_pass_exit | apply x_pass_ret | apply x_block_ret | apply x_block_normal | apply x_block_here | apply x_block_out rfl) | refine lAv rfl ?_ | refine l_no rfl ?_ | refine tT rfl rfl ?_ | refine tF rfl rfl ?_ | refine lT rfl rfl ?_ | refine lF rfl rfl ?_)
  exact x_pu rfl rfl rfl
theorem rheight_calls (kind : Nat) (data : Bys) (ks : List CKid) (a : Option Addr) (c : Nat) (hk : ∀ k ∈ ks, KidOk k) (hz : ks.length ≤ 1000000) (w : World) (hr : Rd w a (rowsV kidV ks)) :
    Pu Tryz.prog 78 #[.agg #[.int .u8 kind, .string ⟨data.toArray⟩, .slice a ks.length c]] w (.int .i64 (hgtF kind ks)) := by
  refine pu_of [_] Tryz.func78 rfl rfl ?_
  simp only [argSlots]
  (repeat first | with_reducible (first | apply t_seq | apply t_region | apply t_block | apply t_ret | apply t_skip | apply t_exit | apply l_nil | apply x_then | apply x_pass_exit | apply x_pass_ret | apply x_block_ret | apply x_block_normal | apply x_block_here | apply x_block_out rfl) | refine lAv rfl ?_ | refine l_no rfl ?_ | refine tT rfl rfl ?_ | refine tF rfl rfl ?_ | refine lT rfl rfl ?_ | refine lF rfl rfl ?_)
  refine l_boxa rfl rfl fun b1 hb1 => ?_
  have hrest : kind = 2 ∨ kind = 3 → hgtF kind ks = maxF ks := fun h => by rw [hgtF, if_pos h]; rfl
  by_cases hkd : kind = 2 ∨ kind = 3
  · rw [hrest hkd]
    rcases hkd with hkd | hkd
    all_goals
      (repeat first | with_reducible (first | apply t_seq | apply t_region | apply t_block | apply t_ret | apply t_skip | apply t_exit | apply l_nil | apply x_then | apply x_pass_exit | apply x_pass_ret | apply x_block_ret | apply x_block_normal | apply x_block_here | apply x_block_out rfl) | refine lAv rfl ?_ | refine l_no rfl ?_ | refine tT rfl rfl ?_ | refine tF rfl rfl ?_ | refine lT rfl rfl ?_ | refine lF rfl rfl ?_)
      refine t_for (α := Nat) (fun i => [(1, .pointer (some ⟨b1, 0, none⟩)), (3, .int .i64 (maxF (ks.take i) : Nat)), (4, .int .i64 i)]) (fun i => i ≤ ks.length ∧ maxF (ks.take i) ≤ 256)
        (fun _ => [pt b1 (.cells #[.int .u8 kind, .string ⟨data.toArray⟩, .slice a ks.length c] 70 (0, 0))]) (fun i => ks.length - i) 0 ⟨rfl, rfl, rfl, trivial⟩ ⟨Nat.zero_le _, by rw [List.take_zero]; exact (by decide : (1 : Nat) ≤ 256)⟩ (fun w' hw' => hw') fun i ⟨hi, hmx⟩ => ?_
      by_cases hi2 : i < ks.length
      · obtain ⟨b, off, rfl, hr'⟩ := hr.at_ (by intro h; have := congrArg List.length h; rw [rowsV_length kidV_len] at this; simp at this; omega)
        have hup := max_up ks hi2
        have hko := hk _ (List.getElem_mem hi2)
        have hrow : ∀ (m : List Eng.Item) w', Hp w none' m w' → w'.rangeAt b (off + i * 36) (kidV ks[i]) := fun m w' hw' => Rd.row kidV_len (rangeAt_old hr' (fun h => h) hw') hi2
        generalize ks[i] = k at hup hko hrow
        have h256 := hko.2.1
        generalize maxF (ks.take i) = M at hup hmx ⊢
        (repeat first | with_reducible (first | apply t_seq | apply t_region | apply t_block | apply t_ret | apply t_skip | apply t_exit | apply l_nil | apply x_then | apply x_pass_exit | apply x_pass_ret | apply x_block_ret | apply x_block_normal | apply x_block_here | apply x_block_out rfl) | refine lAv rfl ?_ | refine l_no rfl ?_ | refine tT rfl rfl ?_ | refine tF rfl rfl ?_ | refine lT rfl rfl ?_ | refine lF rfl rfl ?_)
        refine l_w rfl (v_load rfl rfl (fun w' hw' => hrow _ w' hw' 34 _ (kid_34 k))) ?_
        by_cases hM : k.height ≥ M
        · (repeat first | with_reducible (first | apply t_seq | apply t_region | apply t_block | apply t_ret | apply t_skip | apply t_exit | apply l_nil | apply x_then | apply x_pass_exit | apply x_pass_ret | apply x_block_ret | apply x_block_normal | apply x_block_here | apply x_block_out rfl) | refine lAv rfl ?_ | refine l_no rfl ?_ | refine tT rfl rfl ?_ | refine tF rfl rfl ?_ | refine lT rfl rfl ?_ | refine lF rfl rfl ?_)
          refine l_w rfl (v_load rfl rfl (fun w' hw' => hrow _ w' hw' 34 _ (kid_34 k))) ?_
          (repeat first | with_reducible (first | apply t_seq | apply t_region | apply t_block | apply t_ret | apply t_skip | apply t_exit | apply l_nil | apply x_then | apply x_pass_exit | apply x_pass_ret | apply x_block_ret | apply x_block_normal | apply x_block_here | apply x_block_out rfl) | refine lAv rfl ?_ | refine l_no rfl ?_ | refine tT rfl rfl ?_ | refine tF rfl rfl ?_ | refine lT rfl rfl ?_ | refine lF rfl rfl ?_)
          exact x_round (i + 1) ⟨rfl, by rw [hup, Nat.max_eq_right (by omega)]; rfl, rfl, trivial⟩ ⟨hi2, by rw [hup]; omega⟩ (fun w' hw' => hw') (by omega)
        · (repeat first | with_reducible (first | apply t_seq | apply t_region | apply t_block | apply t_ret | apply t_skip | apply t_exit | apply l_nil | apply x_then | apply x_pass_exit | apply x_pass_ret | apply x_block_ret | apply x_block_normal | apply x_block_here | apply x_block_out rfl) | refine lAv rfl ?_ | refine l_no rfl ?_ | refine tT rfl rfl ?_ | refine tF rfl rfl ?_ | refine lT rfl rfl ?_ | refine lF rfl rfl ?_)
          exact x_round (i + 1) ⟨rfl, by rw [hup, Nat.max_eq_left (by omega)]; rfl, rfl, trivial⟩ ⟨hi2, by rw [hup]; omega⟩ (fun w' hw' => hw') (by omega)
      · obtain rfl : i = ks.length := by omega
        rw [List.take_length]
        (repeat first | with_reducible (first | apply t_seq | apply t_region | apply t_block | apply t_ret | apply t_skip | apply t_exit | apply l_nil | apply x_then | apply x_pass_exit | apply x_pass_ret | apply x_block_ret | apply x_block_normal | apply x_block_here | apply x_block_out rfl) | refine lAv rfl ?_ | refine l_no rfl ?_ | refine tT rfl rfl ?_ | refine tF rfl rfl ?_ | refine lT rfl rfl ?_ | refine lF rfl rfl ?_)
        exact x_pu rfl rfl rfl
  · have h0 : hgtF kind ks = 0 := by rw [hgtF, if_neg hkd]
    rw [h0]
    have h2 : ¬ kind = 2 := fun h => hkd (.inl h)
    have h3 : ¬ kind = 3 := fun h => hkd (.inr h)
    (repeat first | with_reducible (first | apply t_seq | apply t_region | apply t_block | apply t_ret | apply t_skip | apply t_exit | apply l_nil | apply x_then | apply x_pass_exit | apply x_pass_ret | apply x_block_ret | apply x_block_normal | apply x_block_here | apply x_block_out rfl) | refine lAv rfl ?_ | refine l_no rfl ?_ | refine tT rfl rfl ?_ | refine tF rfl rfl ?_ | refine lT rfl rfl ?_ | refine lF rfl rfl ?_)
    exact x_pu rfl rfl rfl
theorem rsize_calls (kind : Nat) (data : Bys) (ks : List CKid) (a : Option Addr) (c : Nat) (hk : ∀ k ∈ ks, KidOk k) (hz : ks.length ≤ 1000000) (hdz : data.length ≤ 1000000000) (w : World) (hr : Rd w a (rowsV kidV ks)) :
    Pu Tryz.prog 79 #[.agg #[.int .u8 kind, .string ⟨data.toArray⟩, .slice a ks.length c]] w (.int .u64 (sizeF ⟨kind, data, ks⟩)) := by
  refine pu_of [_] Tryz.func79 rfl rfl ?_
  simp only [argSlots]
  (repeat first | with_reducible (first | apply t_seq | apply t_region | apply t_block | apply t_ret | apply t_skip | apply t_exit | apply l_nil | apply x_then | apply x_pass_exit | apply x_pass_ret | apply x_block_ret | apply x_block_normal | apply x_block_here | apply x_block_out rfl) | refine lAv rfl ?_ | refine l_no rfl ?_ | refine tT rfl rfl ?_ | refine tF rfl rfl ?_ | refine lT rfl rfl ?_ | refine lF rfl rfl ?_)
  refine l_boxa rfl rfl fun b1 hb1 => ?_
  have hds := ba_len data
  by_cases h2 : kind = 2
  · have hs : sizeF ⟨kind, data, ks⟩ = (ks.map (·.size)).sum := by rw [sizeF, if_pos h2]
    rw [hs]
    (repeat first | with_reducible (first | apply t_seq | apply t_region | apply t_block | apply t_ret | apply t_skip | apply t_exit | apply l_nil | apply x_then | apply x_pass_exit | apply x_pass_ret | apply x_block_ret | apply x_block_normal | apply x_block_here | apply x_block_out rfl) | refine lAv rfl ?_ | refine l_no rfl ?_ | refine tT rfl rfl ?_ | refine tF rfl rfl ?_ | refine lT rfl rfl ?_ | refine lF rfl rfl ?_)
    refine t_for (α := Nat) (fun i => [(1, .pointer (some ⟨b1, 0, none⟩)), (3, .int .u64 (((ks.take i).map (·.size)).sum : Nat)), (4, .int .i64 i)]) (fun i => i ≤ ks.length)
      (fun _ => [pt b1 (.cells #[.int .u8 kind, .string ⟨data.toArray⟩, .slice a ks.length c] 70 (0, 0))]) (fun i => ks.length - i) 0 ⟨rfl, rfl, rfl, trivial⟩ (Nat.zero_le _) (fun w' hw' => hw') fun i hi => ?_
    by_cases hi2 : i < ks.length
    · obtain ⟨b, off, rfl, hr'⟩ := hr.at_ (by intro h; have := congrArg List.length h; rw [rowsV_length kidV_len] at this; simp at this; omega)
      have hup := sum_up ks hi2
      have hle := sum_le ks hk (i + 1)
      have hko := hk _ (List.getElem_mem hi2)
      have hrow : ∀ (m : List Eng.Item) w', Hp w none' m w' → w'.rangeAt b (off + i * 36) (kidV ks[i]) := fun m w' hw' => Rd.row kidV_len (rangeAt_old hr' (fun h => h) hw') hi2
      generalize ks[i] = k at hup hko hrow
      have h256 := hko.2.2.1
      rw [hup] at hle
      generalize ((ks.take i).map (·.size)).sum = S at hup hle ⊢
      (repeat first | with_reducible (first | apply t_seq | apply t_region | apply t_block | apply t_ret | apply t_skip | apply t_exit | apply l_nil | apply x_then | apply x_pass_exit | apply x_pass_ret | apply x_block_ret | apply x_block_normal | apply x_block_here | apply x_block_out rfl) | refine lAv rfl ?_ | refine l_no rfl ?_ | refine tT rfl rfl ?_ | refine tF rfl rfl ?_ | refine lT rfl rfl ?_ | refine lF rfl rfl ?_)
      refine l_w rfl (v_load rfl rfl (fun w' hw' => hrow _ w' hw' 35 _ (kid_35 k))) ?_
      (repeat first | with_reducible (first | apply t_seq | apply t_region | apply t_block | apply t_ret | apply t_skip | apply t_exit | apply l_nil | apply x_then | apply x_pass_exit | apply x_pass_ret | apply x_block_ret | apply x_block_normal | apply x_block_here | apply x_block_out rfl) | refine lAv rfl ?_ | refine l_no rfl ?_ | refine tT rfl rfl ?_ | refine tF rfl rfl ?_ | refine lT rfl rfl ?_ | refine lF rfl rfl ?_)
      exact x_round (i + 1) ⟨rfl, by rw [hup]; rfl, rfl, trivial⟩ hi2 (fun w' hw' => hw') (by omega)
    · obtain rfl : i = ks.length := by omega
      rw [List.take_length]
      (repeat first | with_reducible (first | apply t_seq | apply t_region | apply t_block | apply t_ret | apply t_skip | apply t_exit | apply l_nil | apply x_then | apply x_pass_exit | apply x_pass_ret | apply x_block_ret | apply x_block_normal | apply x_block_here | apply x_block_out rfl) | refine lAv rfl ?_ | refine l_no rfl ?_ | refine tT rfl rfl ?_ | refine tF rfl rfl ?_ | refine lT rfl rfl ?_ | refine lF rfl rfl ?_)
      exact x_pu rfl rfl rfl
  · by_cases h3 : kind = 3
    · have hs : sizeF ⟨kind, data, ks⟩ = 0 := by rw [sizeF, if_neg h2, if_pos h3]
      rw [hs]
      (repeat first | with_reducible (first | apply t_seq | apply t_region | apply t_block | apply t_ret | apply t_skip | apply t_exit | apply l_nil | apply x_then | apply x_pass_exit | apply x_pass_ret | apply x_block_ret | apply x_block_normal | apply x_block_here | apply x_block_out rfl) | refine lAv rfl ?_ | refine l_no rfl ?_ | refine tT rfl rfl ?_ | refine tF rfl rfl ?_ | refine lT rfl rfl ?_ | refine lF rfl rfl ?_)
      exact x_pu rfl rfl rfl
    · have hs : sizeF ⟨kind, data, ks⟩ = data.length := by rw [sizeF, if_neg h2, if_neg h3]
      rw [hs]
      (repeat first | with_reducible (first | apply t_seq | apply t_region | apply t_block | apply t_ret | apply t_skip | apply t_exit | apply l_nil | apply x_then | apply x_pass_exit | apply x_pass_ret | apply x_block_ret | apply x_block_normal | apply x_block_here | apply x_block_out rfl) | refine lAv rfl ?_ | refine l_no rfl ?_ | refine tT rfl rfl ?_ | refine tF rfl rfl ?_ | refine lT rfl rfl ?_ | refine lF rfl rfl ?_)
      rw [hds]
      (repeat first | with_reducible (first | apply t_seq | apply t_region | apply t_block | apply t_ret | apply t_skip | apply t_exit | apply l_nil | apply x_then | apply x_pass_exit | apply x_pass_ret | apply x_block_ret | apply x_block_normal | apply x_block_here | apply x_block_out rfl) | refine lAv rfl ?_ | refine l_no rfl ?_ | refine tT rfl rfl ?_ | refine tF rfl rfl ?_ | refine lT rfl rfl ?_ | refine lF rfl rfl ?_)
      exact x_pu rfl rfl rfl
end Go.Proofs.YtdkonngkbbgcgaaGreatDoor
