/- package crc: the checksum of bytes; the tables as they are laid. -/
import Derived.Test.YtdkonngkbbgcgaaGreatDoorPka
import Derived.Test.YtdkonngkbbgcgaaGreatDoorGc
namespace Go.Proofs.YtdkonngkbbgcgaaGreatDoor
open Go.RowKit Go.Eng
set_option maxRecDepth 100000
set_option maxHeartbeats 40000000
/-- The tables of the program. -/
structure Tabs (w : World) : Prop where
  first : w.rangeAt 0 0 (H8.l.map w32)
  halves : w.rangeAt 1 0 (halves.map w32)
  k : w.rangeAt 2 0 ((List.range 64).map fun i => w32 (Kf i))
  top : ∀ k, k < 3 → k < w.heap.size
theorem Tabs.fr {w w' : World} {F : Nat → Prop} (h : Tabs w) (hF : ∀ k, k < 3 → ¬ F k) (hf : Fr F w w') : Tabs w' :=
  ⟨rangeAt_fr h.first (hF _ (by decide)) hf, rangeAt_fr h.halves (hF _ (by decide)) hf, rangeAt_fr h.k (hF _ (by decide)) hf, fun k hk => Nat.lt_of_lt_of_le (h.top k hk) hf.size⟩
theorem Tabs.keep {w w' : World} {m : List Eng.Item} (h : Tabs w) (hw : Hp w none' m w') : Tabs w' := h.fr (fun _ _ h => h) hw.fr
def hN : Nat → BitVec 32 → BitVec 32
  | 0, m => m
  | j + 1, m => half (hN j m)
theorem halves_at (m : BitVec 32) : (halves.map w32)[(m &&& 15#32).toNat]? = some (w32 (halves[(m &&& 15#32).toNat]?.getD 0)) := by
  have h : (m &&& 15#32).toNat < halves.length := by
    rw [BitVec.toNat_and]
    exact Nat.lt_succ_of_le Nat.and_le_right
  rw [List.getElem?_map, List.getElem?_eq_getElem h]
  rfl
theorem crc_calls (a : Option Addr) (n c : Nat) (bs : Bys) (hn : bs.length = n) (hz : n ≤ 1000000000) (w : World) (hr : Rd w a (bytesV bs)) (ht : Tabs w) :
    Pu Tryz.prog 25 #[.slice a n c] w (w32 (crcF bs)) := by
  refine pu_of [_] Tryz.func25 rfl rfl ?_
  simp only [argSlots]
  (repeat first | with_reducible (first | apply t_seq | apply t_region | apply t_block | apply t_ret | apply t_skip | apply t_exit | apply l_nil | apply x_then | apply x_pass_exit | apply x_pass_ret | apply x_block_ret | apply x_block_normal | apply x_block_here | apply x_block_out rfl) | refine lAv rfl ?_ | refine l_no rfl ?_ | refine tT rfl rfl ?_ | refine tF rfl rfl ?_ | refine lT rfl rfl ?_ | refine lF rfl rfl ?_)
  refine t_for (α := Nat) (fun k => [(3, w32 ((bs.take k).foldl byte1 (BitVec.allOnes 32))), (6, .slice a n c), (7, .int .i64 n), (8, .int .i64 k)]) (fun k => k ≤ n) (fun _ => []) (fun k => n - k) 0 ⟨rfl, rfl, rfl, rfl, trivial⟩ (Nat.zero_le _) (fun _ h => h) fun k hk => ?_
  by_cases hk2 : k < n
  · have hkb : k < bs.length := by omega
    obtain ⟨b, off, rfl, hc⟩ := hr.byte hkb
    have hst : (bs.take (k + 1)).foldl byte1 (BitVec.allOnes 32) = byte1 ((bs.take k).foldl byte1 (BitVec.allOnes 32)) bs[k] := by rw [List.take_succ_eq_append_getElem hkb, List.foldl_append]; rfl
    generalize bs[k] = x at hc hst
    generalize (bs.take k).foldl byte1 (BitVec.allOnes 32) = q at hst ⊢
    (repeat first | with_reducible (first | apply t_seq | apply t_region | apply t_block | apply t_ret | apply t_skip | apply t_exit | apply l_nil | apply x_then | apply x_pass_exit | apply x_pass_ret | apply x_block_ret | apply x_block_normal | apply x_block_here | apply x_block_out rfl) | refine lWv rfl ?_ | refine l_no rfl ?_ | refine tT rfl rfl ?_ | refine tF rfl rfl ?_ | refine lT rfl rfl ?_ | refine lF rfl rfl ?_)
    refine l_w rfl (v_load0 rfl rfl (fun h => h) hc) ?_
    (repeat first | with_reducible (first | apply t_seq | apply t_region | apply t_block | apply t_ret | apply t_skip | apply t_exit | apply l_nil | apply x_then | apply x_pass_exit | apply x_pass_ret | apply x_block_ret | apply x_block_normal | apply x_block_here | apply x_block_out rfl) | refine lWv rfl ?_ | refine l_no rfl ?_ | refine tT rfl rfl ?_ | refine tF rfl rfl ?_ | refine lT rfl rfl ?_ | refine lF rfl rfl ?_)
    refine t_for (α := Nat) (fun j => [(3, w32 (hN j (q ^^^ BitVec.ofNat 32 x.toNat))), (6, .slice (some ⟨b, off, none⟩) n c), (7, .int .i64 n), (8, .int .i64 k), (16, .int .i64 j)]) (fun j => j ≤ 2) (fun _ => []) (fun j => 2 - j) 0 ⟨rfl, rfl, rfl, rfl, rfl, trivial⟩ (Nat.zero_le _) (fun _ h => h) fun j hj => ?_
    by_cases hj2 : j < 2
    · have hh := halves_at (hN j (q ^^^ BitVec.ofNat 32 x.toNat))
      have hl : (hN j (q ^^^ BitVec.ofNat 32 x.toNat) &&& 15#32).toNat < 16 := by
        rw [BitVec.toNat_and]
        exact Nat.lt_succ_of_le Nat.and_le_right
      (repeat first | with_reducible (first | apply t_seq | apply t_region | apply t_block | apply t_ret | apply t_skip | apply t_exit | apply l_nil | apply x_then | apply x_pass_exit | apply x_pass_ret | apply x_block_ret | apply x_block_normal | apply x_block_here | apply x_block_out rfl) | refine lWv rfl ?_ | refine l_no rfl ?_ | refine tT rfl rfl ?_ | refine tF rfl rfl ?_ | refine lT rfl rfl ?_ | refine lF rfl rfl ?_)
      refine l_w rfl (v_load0 rfl rfl (fun h => h) (ht.halves _ _ hh)) ?_
      (repeat first | with_reducible (first | apply t_seq | apply t_region | apply t_block | apply t_ret | apply t_skip | apply t_exit | apply l_nil | apply x_then | apply x_pass_exit | apply x_pass_ret | apply x_block_ret | apply x_block_normal | apply x_block_here | apply x_block_out rfl) | refine lWv rfl ?_ | refine l_no rfl ?_ | refine tT rfl rfl ?_ | refine tF rfl rfl ?_ | refine lT rfl rfl ?_ | refine lF rfl rfl ?_)
      exact x_round (j + 1) ⟨rfl, rfl, rfl, rfl, rfl, trivial⟩ hj2 (fun _ h => h) (by omega)
    · obtain rfl : j = 2 := by omega
      (repeat first | with_reducible (first | apply t_seq | apply t_region | apply t_block | apply t_ret | apply t_skip | apply t_exit | apply l_nil | apply x_then | apply x_pass_exit | apply x_pass_ret | apply x_block_ret | apply x_block_normal | apply x_block_here | apply x_block_out rfl) | refine lWv rfl ?_ | refine l_no rfl ?_ | refine tT rfl rfl ?_ | refine tF rfl rfl ?_ | refine lT rfl rfl ?_ | refine lF rfl rfl ?_)
      refine x_round (k + 1) ⟨by rw [hst]; rfl, rfl, rfl, rfl, trivial⟩ hk2 (fun _ h => h) (by omega)
  · obtain rfl : k = n := by omega
    have ht : bs.take k = bs := List.take_of_length_le (by omega)
    rw [ht]
    (repeat first | with_reducible (first | apply t_seq | apply t_region | apply t_block | apply t_ret | apply t_skip | apply t_exit | apply l_nil | apply x_then | apply x_pass_exit | apply x_pass_ret | apply x_block_ret | apply x_block_normal | apply x_block_here | apply x_block_out rfl) | refine lWv rfl ?_ | refine l_no rfl ?_ | refine tT rfl rfl ?_ | refine tF rfl rfl ?_ | refine lT rfl rfl ?_ | refine lF rfl rfl ?_)
    exact x_pu rfl rfl rfl
end Go.Proofs.YtdkonngkbbgcgaaGreatDoor
