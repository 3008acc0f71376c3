/- The document's checksum (armariumref02), walked. -/
import Derived.Test.YtdkonngkbbgcgaaGreatDoorRta
namespace Go.Proofs.YtdkonngkbbgcgaaGreatDoor
open Go.RowKit Go.Eng
set_option maxRecDepth 100000
set_option maxHeartbeats 40000000
def bitIt : Nat → Nat × Nat → Nat × Nat
  | 0, x => x
  | k + 1, x => refBit (bitIt k x)
theorem bitIt_8 (n c : Nat) : (bitIt 8 (n, c)).1 = refByte n c := rfl
theorem refBit_lt {x : Nat × Nat} (h1 : x.1 < 4294967296) (h2 : x.2 < 256) : (refBit x).1 < 4294967296 ∧ (refBit x).2 < 256 := by
  unfold refBit
  refine ⟨?_, by simp only; omega⟩
  simp only
  split
  · exact Nat.xor_lt_two_pow (n := 32) (by omega) (by decide)
  · omega
theorem bitIt_lt {n c : Nat} (h1 : n < 4294967296) (h2 : c < 256) : ∀ k, (bitIt k (n, c)).1 < 4294967296 ∧ (bitIt k (n, c)).2 < 256
  | 0 => ⟨h1, h2⟩
  | k + 1 => refBit_lt (bitIt_lt h1 h2 k).1 (bitIt_lt h1 h2 k).2
theorem rcrc_calls (s : Bys) (hz : s.length ≤ 1000000) (w : World) : Pu Tryz.prog 32 #[.string ⟨s.toArray⟩] w (w32 (crcF s)) := by
  refine pu_of [_] Tryz.func32 rfl rfl ?_
  simp only [argSlots]
  have hsl := ba_len s
  (repeat first | with_reducible (first | apply t_seq | apply t_region | apply t_block | apply t_ret | apply t_skip | apply t_exit | apply l_nil | apply x_then | apply x_pass_exit | apply x_pass_ret | apply x_block_ret | apply x_block_normal | apply x_block_here | apply x_block_out rfl) | refine lAv rfl ?_ | refine l_no rfl ?_ | refine tT rfl rfl ?_ | refine tF rfl rfl ?_ | refine lT rfl rfl ?_ | refine lF rfl rfl ?_)
  refine t_for (α := Nat) (fun i => [(0, .string ⟨s.toArray⟩), (3, .int .u32 ((s.take i).foldl (fun m c => refByte m c.toNat) 4294967295 : Nat)), (4, .int .i64 i)]) (fun i => i ≤ s.length) (fun _ => []) (fun i => s.length - i) 0 ⟨rfl, rfl, rfl, trivial⟩ (Nat.zero_le _) (fun w' hw' => hw') fun i hi => ?_
  have hlt : (s.take i).foldl (fun m c => refByte m c.toNat) 4294967295 < 4294967296 := by
    have := refFold_is (s.take i) (BitVec.allOnes 32)
    rw [show (BitVec.allOnes 32).toNat = 4294967295 from rfl] at this
    rw [this]
    exact ((s.take i).foldl byte1 (BitVec.allOnes 32)).isLt
  by_cases hi2 : i < s.length
  · have hup : (s.take (i + 1)).foldl (fun m c => refByte m c.toNat) 4294967295 = refByte ((s.take i).foldl (fun m c => refByte m c.toNat) 4294967295) s[i].toNat := by rw [List.take_succ_eq_append_getElem hi2, List.foldl_append]; rfl
    have hc := s[i].toNat_lt
    obtain ⟨c, hcE⟩ : ∃ c, s[i].toNat = c := ⟨_, rfl⟩
    have hget : ∀ h : i < (⟨s.toArray⟩ : ByteArray).size, (((⟨s.toArray⟩ : ByteArray)[i]).toNat : Int) = (c : Int) := fun _ => by rw [← hcE]; rfl
    rw [hcE] at hup hc
    generalize (s.take i).foldl (fun m c => refByte m c.toNat) 4294967295 = n at hlt hup ⊢
    (repeat first | with_reducible (first | apply t_seq | apply t_region | apply t_block | apply t_ret | apply t_skip | apply t_exit | apply l_nil | apply x_then | apply x_pass_exit | apply x_pass_ret | apply x_block_ret | apply x_block_normal | apply x_block_here | apply x_block_out rfl) | refine lAv rfl ?_ | refine l_no rfl ?_ | refine tT rfl rfl ?_ | refine tF rfl rfl ?_ | refine lT rfl rfl ?_ | refine lF rfl rfl ?_)
    refine t_for (α := Nat) (fun k => [(0, .string ⟨s.toArray⟩), (3, .int .u32 ((bitIt k (n, c)).1 : Nat)), (4, .int .i64 i), (5, .int .u8 ((bitIt k (n, c)).2 : Nat)), (6, .int .i64 k)]) (fun k => k ≤ 8) (fun _ => []) (fun k => 8 - k) 0 ⟨rfl, rfl, rfl, congrArg (fun z => some (Value.int .u8 z)) (hget _), rfl, trivial⟩ (Nat.zero_le _) (fun w' hw' => hw') fun k hk => ?_
    have hb := bitIt_lt hlt hc k
    by_cases hk2 : k < 8
    · have hnx : bitIt (k + 1) (n, c) = refBit (bitIt k (n, c)) := rfl
      generalize bitIt k (n, c) = x at hb hnx ⊢
      obtain ⟨a, b⟩ := x
      simp only at hb ⊢
      obtain ⟨hb1, hb2⟩ := hb
      (repeat first | with_reducible (first | apply t_seq | apply t_region | apply t_block | apply t_ret | apply t_skip | apply t_exit | apply l_nil | apply x_then | apply x_pass_exit | apply x_pass_ret | apply x_block_ret | apply x_block_normal | apply x_block_here | apply x_block_out rfl) | refine lAv rfl ?_ | refine l_no rfl ?_ | refine tT rfl rfl ?_ | refine tF rfl rfl ?_ | refine lT rfl rfl ?_ | refine lF rfl rfl ?_)
      by_cases h : (a % 2 + b % 2) % 2 = 1
      · have hr : refBit (a, b) = ((a / 2) ^^^ 2197175160, b / 2) := by unfold refBit; simp only [if_pos h]
        rw [hr] at hnx
        (repeat first | with_reducible (first | apply t_seq | apply t_region | apply t_block | apply t_ret | apply t_skip | apply t_exit | apply l_nil | apply x_then | apply x_pass_exit | apply x_pass_ret | apply x_block_ret | apply x_block_normal | apply x_block_here | apply x_block_out rfl) | refine lAv rfl ?_ | refine l_no rfl ?_ | refine tT rfl rfl ?_ | refine tF rfl rfl ?_ | refine lT rfl rfl ?_ | refine lF rfl rfl ?_)
        exact x_round (k + 1) ⟨rfl, by rw [hnx]; rfl, rfl, by rw [hnx]; rfl, rfl, trivial⟩ hk2 (fun w' hw' => hw') (by omega)
      · have hr : refBit (a, b) = (a / 2, b / 2) := by unfold refBit; simp only [if_neg h]
        rw [hr] at hnx
        (repeat first | with_reducible (first | apply t_seq | apply t_region | apply t_block | apply t_ret | apply t_skip | apply t_exit | apply l_nil | apply x_then | apply x_pass_exit | apply x_pass_ret | apply x_block_ret | apply x_block_normal | apply x_block_here | apply x_block_out rfl) | refine lAv rfl ?_ | refine l_no rfl ?_ | refine tT rfl rfl ?_ | refine tF rfl rfl ?_ | refine lT rfl rfl ?_ | refine lF rfl rfl ?_)
        exact x_round (k + 1) ⟨rfl, by rw [hnx]; rfl, rfl, by rw [hnx]; rfl, rfl, trivial⟩ hk2 (fun w' hw' => hw') (by omega)
    · obtain rfl : k = 8 := by omega
      (repeat first | with_reducible (first | apply t_seq | apply t_region | apply t_block | apply t_ret | apply t_skip | apply t_exit | apply l_nil | apply x_then | apply x_pass_exit | apply x_pass_ret | apply x_block_ret | apply x_block_normal | apply x_block_here | apply x_block_out rfl) | refine lAv rfl ?_ | refine l_no rfl ?_ | refine tT rfl rfl ?_ | refine tF rfl rfl ?_ | refine lT rfl rfl ?_ | refine lF rfl rfl ?_)
      exact x_round (i + 1) ⟨rfl, by rw [hup]; rfl, rfl, trivial⟩ hi2 (fun w' hw' => hw') (by omega)
  · obtain rfl : i = s.length := by omega
    have hcr := refCrc_is s
    rw [List.take_length] at hlt ⊢
    generalize s.foldl (fun m c => refByte m c.toNat) 4294967295 = n at hlt hcr ⊢
    (repeat first | with_reducible (first | apply t_seq | apply t_region | apply t_block | apply t_ret | apply t_skip | apply t_exit | apply l_nil | apply x_then | apply x_pass_exit | apply x_pass_ret | apply x_block_ret | apply x_block_normal | apply x_block_here | apply x_block_out rfl) | refine lAv rfl ?_ | refine l_no rfl ?_ | refine tT rfl rfl ?_ | refine tF rfl rfl ?_ | refine lT rfl rfl ?_ | refine lF rfl rfl ?_)
    exact x_pu rfl rfl (by rw [hcr])
end Go.Proofs.YtdkonngkbbgcgaaGreatDoor
