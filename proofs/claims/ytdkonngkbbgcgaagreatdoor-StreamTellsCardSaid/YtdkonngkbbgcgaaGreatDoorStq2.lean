/- package stream: the pieces of the stream that is known. -/
import Derived.Test.YtdkonngkbbgcgaaGreatDoorStq
import Derived.Test.YtdkonngkbbgcgaaGreatDoorGc
namespace Go.Proofs.YtdkonngkbbgcgaaGreatDoor
open Go.RowKit Go.Eng
set_option maxRecDepth 100000
set_option maxHeartbeats 40000000
theorem pcI_stable (bl bv bM : Nat) (y : Bys) : ∀ it ∈ pcI bl bv bM y, it.Stable none' := by simp [pt_stable, mapAt_stable]
theorem Pieces_calls (y : Bys) (C : Chk) (hC : chkF y = some C) (hk : C.kids = []) (a : Option Addr) (c : Nat) (w : World) (hs : ChL w a c [y]) (ht : Tabs w) :
    Ct Tryz.prog 17 #[.pointer none, .agg (strmA (shaF y) a 1 c)] w none' (fun o : Option (Nat × Nat) => .tuple #[slV o 1, .int .i64 0]) (fun _ => True) (fun o => [own 9 1 o 1 [.string ⟨y.toArray⟩]]) := by
  have hy : y.length ≤ 100000 := Nat.le_trans (hs.long y (by simp)) (by decide)
  have h32 := strm_32 (shaF y) (shaF_len y) a 1 c
  refine ctD_of [_, _] Tryz.func17 rfl rfl ?_
  simp only [argSlots, Nat.reduceAdd]
  (repeat first | with_reducible (first | apply t_seq | apply t_region | apply t_block | apply t_ret | apply t_skip | apply t_exit | apply l_nil | apply x_then | apply x_pass_exit | apply x_pass_ret | apply x_block_ret | apply x_block_normal | apply x_block_here | apply x_block_out rfl) | refine lAv rfl ?_ | refine l_no rfl ?_ | refine tT rfl rfl ?_ | refine tF rfl rfl ?_ | refine lT rfl rfl ?_ | refine lF rfl rfl ?_)
  refine l_box1 rfl rfl rfl fun b2 hb2 => ?_
  (repeat first | with_reducible (first | apply t_seq | apply t_region | apply t_block | apply t_ret | apply t_skip | apply t_exit | apply l_nil | apply x_then | apply x_pass_exit | apply x_pass_ret | apply x_block_ret | apply x_block_normal | apply x_block_here | apply x_block_out rfl) | refine lAv rfl ?_ | refine l_no rfl ?_ | refine tT rfl rfl ?_ | refine tF rfl rfl ?_ | refine lT rfl rfl ?_ | refine lF rfl rfl ?_)
  refine l_boxa rfl rfl fun b3 hb3 => ?_
  (repeat first | with_reducible (first | apply t_seq | apply t_region | apply t_block | apply t_ret | apply t_skip | apply t_exit | apply l_nil | apply x_then | apply x_pass_exit | apply x_pass_ret | apply x_block_ret | apply x_block_normal | apply x_block_here | apply x_block_out rfl) | refine lAv rfl ?_ | refine l_no rfl ?_ | refine tT rfl rfl ?_ | refine tF rfl rfl ?_ | refine lT rfl rfl ?_ | refine lF rfl rfl ?_)
  refine l_alloc1 rfl rfl rfl fun b5 hb5 => ?_
  (repeat first | with_reducible (first | apply t_seq | apply t_region | apply t_block | apply t_ret | apply t_skip | apply t_exit | apply l_nil | apply x_then | apply x_pass_exit | apply x_pass_ret | apply x_block_ret | apply x_block_normal | apply x_block_here | apply x_block_out rfl) | refine lAv rfl ?_ | refine l_no rfl ?_ | refine tT rfl rfl ?_ | refine tF rfl rfl ?_ | refine lT rfl rfl ?_ | refine lF rfl rfl ?_)
  refine l_defer (xs := [.tmp 5]) rfl rfl ?_
  (repeat first | with_reducible (first | apply t_seq | apply t_region | apply t_block | apply t_ret | apply t_skip | apply t_exit | apply l_nil | apply x_then | apply x_pass_exit | apply x_pass_ret | apply x_block_ret | apply x_block_normal | apply x_block_here | apply x_block_out rfl) | refine lAv rfl ?_ | refine l_no rfl ?_ | refine tT rfl rfl ?_ | refine tF rfl rfl ?_ | refine lT rfl rfl ?_ | refine lF rfl rfl ?_)
  refine l_ctg rfl rfl (by kernel_rfl) rfl (fun w1 hw1 => hashes_calls (shaF y) [y] a c (shaF_len y) w1 (hs.keep hw1) (ht.keep hw1)) fun x hx => ?_
  obtain ⟨bM, hbM⟩ : ∃ bM, x = bM := ⟨_, rfl⟩
  rw [hbM]
  (repeat first | with_reducible (first | apply t_seq | apply t_region | apply t_block | apply t_ret | apply t_skip | apply t_exit | apply l_nil | apply x_then | apply x_pass_exit | apply x_pass_ret | apply x_block_ret | apply x_block_normal | apply x_block_here | apply x_block_out rfl) | refine lAv rfl ?_ | refine l_no rfl ?_ | refine tT rfl rfl ?_ | refine tF rfl rfl ?_ | refine lT rfl rfl ?_ | refine lF rfl rfl ?_)
  refine l_alloc1 rfl rfl rfl fun b6 hb6 => ?_
  refine l_op rfl (o_store1 rfl rfl rfl rfl rfl rfl (by simp)) fun _ => ?_
  (repeat first | with_reducible (first | apply t_seq | apply t_region | apply t_block | apply t_ret | apply t_skip | apply t_exit | apply l_nil | apply x_then | apply x_pass_exit | apply x_pass_ret | apply x_block_ret | apply x_block_normal | apply x_block_here | apply x_block_out rfl) | refine lAv rfl ?_ | refine l_no rfl ?_ | refine tT rfl rfl ?_ | refine tF rfl rfl ?_ | refine lT rfl rfl ?_ | refine lF rfl rfl ?_)
  refine l_alloc1 rfl rfl rfl fun b8 hb8 => ?_
  (repeat first | with_reducible (first | apply t_seq | apply t_region | apply t_block | apply t_ret | apply t_skip | apply t_exit | apply l_nil | apply x_then | apply x_pass_exit | apply x_pass_ret | apply x_block_ret | apply x_block_normal | apply x_block_here | apply x_block_out rfl) | refine lAv rfl ?_ | refine l_no rfl ?_ | refine tT rfl rfl ?_ | refine tF rfl rfl ?_ | refine lT rfl rfl ?_ | refine lF rfl rfl ?_)
  refine l_alloc1 rfl rfl rfl fun b9 hb9 => ?_
  (repeat first | with_reducible (first | apply t_seq | apply t_region | apply t_block | apply t_ret | apply t_skip | apply t_exit | apply l_nil | apply x_then | apply x_pass_exit | apply x_pass_ret | apply x_block_ret | apply x_block_normal | apply x_block_here | apply x_block_out rfl) | refine lAv rfl ?_ | refine l_no rfl ?_ | refine tT rfl rfl ?_ | refine tF rfl rfl ?_ | refine lT rfl rfl ?_ | refine lF rfl rfl ?_)
  refine l_w rfl (v_mkf rfl) ?_
  refine l_op rfl (o_store1 rfl rfl rfl rfl rfl rfl (by simp)) fun _ => ?_
  (repeat first | with_reducible (first | apply t_seq | apply t_region | apply t_block | apply t_ret | apply t_skip | apply t_exit | apply l_nil | apply x_then | apply x_pass_exit | apply x_pass_ret | apply x_block_ret | apply x_block_normal | apply x_block_here | apply x_block_out rfl) | refine lAv rfl ?_ | refine l_no rfl ?_ | refine tT rfl rfl ?_ | refine tF rfl rfl ?_ | refine lT rfl rfl ?_ | refine lF rfl rfl ?_)
  refine l_w rfl (v_loadcE (xs := bytesV (shaF y)) (c := (bytesV (shaF y)).toArray) rfl (by rw [bytesV_length, shaF_len]; rfl) (fun w' hw' => strm_root (hw'.get (b := b3) (.tail _ (.tail _ (.tail _ (.tail _ (.tail _ (.head _)))))))) rfl) ?_
  refine l_say 18 _ (hashV (shaF y)) rfl rfl ?_
  refine l_pick [1, 2, 3, 4] rfl rfl ?_
  refine l_opg rfl (o_cuF (pre := pcI b8 b6 bM y) (fs := []) (cs := [.pointer (some ⟨b8, 0, none⟩), .pointer (some ⟨b6, 0, none⟩), .pointer (some ⟨b2, 0, none⟩), .pointer (some ⟨b9, 0, none⟩)]) rfl (by kernel_rfl) rfl rfl rfl (pcI_stable _ _ _ _) (fun w1 hw1 hh1 ha1 => walk_calls y C hC hk hy b8 b6 bM b2 b9 w1 hh1 ha1)) fun ⟨o, _⟩ => ?_
  (repeat first | with_reducible (first | apply t_seq | apply t_region | apply t_block | apply t_ret | apply t_skip | apply t_exit | apply l_nil | apply x_then | apply x_pass_exit | apply x_pass_ret | apply x_block_ret | apply x_block_normal | apply x_block_here | apply x_block_out rfl) | refine lAv rfl ?_ | refine l_no rfl ?_ | refine tT rfl rfl ?_ | refine tF rfl rfl ?_ | refine lT rfl rfl ?_ | refine lF rfl rfl ?_)
  refine l_op rfl (ho_perm (bring3 _ _ _ _ _) (o_store1 rfl rfl rfl rfl rfl rfl (by simp))) fun _ => ?_
  (repeat first | with_reducible (first | apply t_seq | apply t_region | apply t_block | apply t_ret | apply t_skip | apply t_exit | apply l_nil | apply x_then | apply x_pass_exit | apply x_pass_ret | apply x_block_ret | apply x_block_normal | apply x_block_here | apply x_block_out rfl) | refine lAv rfl ?_ | refine l_no rfl ?_ | refine tT rfl rfl ?_ | refine tF rfl rfl ?_ | refine lT rfl rfl ?_ | refine lF rfl rfl ?_)
  refine x_door (by kernel_rfl) (fun w hw => ends_calls _ w) ?_
  exact x_ct2 o rfl rfl ⟨_, rfl, cell1_run rfl (.head _)⟩ rfl trivial (.cons _ (.cons _ (.cons_cons _ (List.nil_sublist _)))) (by simp [own_stable])
end Go.Proofs.YtdkonngkbbgcgaaGreatDoor
