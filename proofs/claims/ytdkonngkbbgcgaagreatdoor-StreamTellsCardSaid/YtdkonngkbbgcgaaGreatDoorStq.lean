/- package stream: a round of Pieces, at a chunk that is there and has no children. -/
import Derived.Test.YtdkonngkbbgcgaaGreatDoorStm
namespace Go.Eng
open Go.RowKit
theorem x_pu0N {P : Program} {w0 : World} {m : List Item} {l : Slots} {n : Nat} {fn : Func} (hf : fn.results = #[]) : HX (bodyPost P fn (puPost w0 (.tuple #[]))) .normal ⟨n, [], none⟩ l (Hp w0 none' m) := x_end0 hf fun _ hw => ⟨rfl, hw.fr⟩
end Go.Eng
namespace Go.Proofs.YtdkonngkbbgcgaaGreatDoor
open Go.RowKit Go.Eng
set_option maxRecDepth 100000
set_option maxHeartbeats 40000000
theorem sask_calls (e : Int) (w : World) : Pu Tryz.prog 44 #[.bool true, .int .i64 e] w (.tuple #[]) := by
  refine pu_of [_, _] Tryz.func44 rfl rfl ?_
  simp only [argSlots, Nat.reduceAdd]
  (repeat first | with_reducible (first | apply t_seq | apply t_region | apply t_block | apply t_ret | apply t_skip | apply t_exit | apply l_nil | apply x_then | apply x_pass_exit | apply x_pass_ret | apply x_block_ret | apply x_block_normal | apply x_block_here | apply x_block_out rfl) | refine lAv rfl ?_ | refine l_no rfl ?_ | refine tT rfl rfl ?_ | refine tF rfl rfl ?_ | refine lT rfl rfl ?_ | refine lF rfl rfl ?_)
  exact x_pu0N rfl
/-- What Pieces has: its rows, the chunks that are there. -/
abbrev pcI (bl bv bM : Nat) (y : Bys) : List Eng.Item := [pt bl (.cells #[.slice none 0 0] 24 (0, 0)), pt bv (.cells #[.map (some bM)] 76 (0, 0)), mapAt bM (allA [y])]
theorem walk_calls (y : Bys) (C : Chk) (hC : chkF y = some C) (hk : C.kids = []) (hy : y.length ≤ 100000) (bl bv bM bs bf : Nat) (w : World) (hh : ∀ it ∈ pcI bl bv bM y, Here it w) (ha : (pcI bl bv bM y).Pairwise Item.Apart) :
    Ct Tryz.prog 43 #[hashV (shaF y), .pointer (some ⟨bl, 0, none⟩), .pointer (some ⟨bv, 0, none⟩), .pointer (some ⟨bs, 0, none⟩), .pointer (some ⟨bf, 0, none⟩)] w (foots (pcI bl bv bM y)) (fun _ : Option (Nat × Nat) => .tuple #[]) (fun _ => True)
      (fun o => [pt bl (.cells #[slV o 1] 24 (0, 0)), own 9 1 o 1 [.string ⟨y.toArray⟩], pt bv (.cells #[.map (some bM)] 76 (0, 0))]) := by
  have hl : (allA [y]).lookup (shaF y) = some (heldV y) := by simp [allA, insA, List.lookup]
  have hxl := ba_len y
  refine cu_of [_, _, _, _, _] _ Tryz.func43 rfl rfl hh ha ?_
  simp only [argSlots, Nat.reduceAdd]
  (repeat first | with_reducible (first | apply t_seq | apply t_region | apply t_block | apply t_ret | apply t_skip | apply t_exit | apply l_nil | apply x_then | apply x_pass_exit | apply x_pass_ret | apply x_block_ret | apply x_block_normal | apply x_block_here | apply x_block_out rfl) | refine lAv rfl ?_ | refine l_no rfl ?_ | refine tT rfl rfl ?_ | refine tF rfl rfl ?_ | refine lT rfl rfl ?_ | refine lF rfl rfl ?_)
  refine l_boxa rfl rfl fun b5 hb5 => ?_
  (repeat first | with_reducible (first | apply t_seq | apply t_region | apply t_block | apply t_ret | apply t_skip | apply t_exit | apply l_nil | apply x_then | apply x_pass_exit | apply x_pass_ret | apply x_block_ret | apply x_block_normal | apply x_block_here | apply x_block_out rfl) | refine lAv rfl ?_ | refine l_no rfl ?_ | refine tT rfl rfl ?_ | refine tF rfl rfl ?_ | refine lT rfl rfl ?_ | refine lF rfl rfl ?_)
  refine l_opg rfl (o_pure rfl (by kernel_rfl) rfl (fun w1 hw1 => sask_calls 6 w1)) fun _ => ?_
  (repeat first | with_reducible (first | apply t_seq | apply t_region | apply t_block | apply t_ret | apply t_skip | apply t_exit | apply l_nil | apply x_then | apply x_pass_exit | apply x_pass_ret | apply x_block_ret | apply x_block_normal | apply x_block_here | apply x_block_out rfl) | refine lAv rfl ?_ | refine l_no rfl ?_ | refine tT rfl rfl ?_ | refine tF rfl rfl ?_ | refine lT rfl rfl ?_ | refine lF rfl rfl ?_)
  refine l_w rfl (v_lookK (h := shaF y) (zv := heldV []) hash_law hash_keys rfl rfl rfl rfl (shaF_len y) (.tail _ (.tail _ (.tail _ (.head _))))) ?_
  rw [hl]
  simp only [Option.getD_some, Option.isSome_some]
  (repeat first | with_reducible (first | apply t_seq | apply t_region | apply t_block | apply t_ret | apply t_skip | apply t_exit | apply l_nil | apply x_then | apply x_pass_exit | apply x_pass_ret | apply x_block_ret | apply x_block_normal | apply x_block_here | apply x_block_out rfl) | refine lAv rfl ?_ | refine l_no rfl ?_ | refine tT rfl rfl ?_ | refine tF rfl rfl ?_ | refine lT rfl rfl ?_ | refine lF rfl rfl ?_)
  refine l_say 23 _ (.agg #[.string ⟨y.toArray⟩]) rfl rfl ?_
  refine l_alloca rfl rfl fun b6 hb6 => ?_
  refine l_op rfl (o_storea rfl rfl rfl rfl rfl rfl) fun _ => ?_
  (repeat first | with_reducible (first | apply t_seq | apply t_region | apply t_block | apply t_ret | apply t_skip | apply t_exit | apply l_nil | apply x_then | apply x_pass_exit | apply x_pass_ret | apply x_block_ret | apply x_block_normal | apply x_block_here | apply x_block_out rfl) | refine lAv rfl ?_ | refine l_no rfl ?_ | refine tT rfl rfl ?_ | refine tF rfl rfl ?_ | refine lT rfl rfl ?_ | refine lF rfl rfl ?_)
  refine l_op rfl (o_strb rfl rfl rfl rfl) fun ⟨p, hp1, hp2⟩ => ?_
  refine l_ctg rfl rfl (by kernel_rfl) rfl (fun w1 hw1 => ctake_calls (some ⟨p.1, 0, none⟩) (⟨y.toArray⟩ : ByteArray).size p.2 y hxl.symm (by omega) w1 (.inr ⟨p.1, 0, rfl, strRow_at (hw1.item _ (.head _)).1⟩)) fun x hx => ?_
  obtain ⟨o8, ho8⟩ : ∃ o, x = o := ⟨_, rfl⟩
  rw [ho8, hC]
  simp only [Option.getD_some, Option.isSome_some, if_true, hk, List.length_nil]
  (repeat first | with_reducible (first | apply t_seq | apply t_region | apply t_block | apply t_ret | apply t_skip | apply t_exit | apply l_nil | apply x_then | apply x_pass_exit | apply x_pass_ret | apply x_block_ret | apply x_block_normal | apply x_block_here | apply x_block_out rfl) | refine lAv rfl ?_ | refine l_no rfl ?_ | refine tT rfl rfl ?_ | refine tF rfl rfl ?_ | refine lT rfl rfl ?_ | refine lF rfl rfl ?_)
  refine l_fact (fun w hw => (own_val (hw.item (own 85 36 o8 0 (rowsV kidV [])) (by simp)).1)) fun ⟨hsl, hcap⟩ => ?_
  rw [hsl]
  refine l_alloca rfl rfl fun b11 hb11 => ?_
  refine l_op rfl (o_storea rfl rfl rfl rfl (by rw [← hsl]; exact chk_one _ _ _ _) rfl) fun _ => ?_
  (repeat first | with_reducible (first | apply t_seq | apply t_region | apply t_block | apply t_ret | apply t_skip | apply t_exit | apply l_nil | apply x_then | apply x_pass_exit | apply x_pass_ret | apply x_block_ret | apply x_block_normal | apply x_block_here | apply x_block_out rfl) | refine lAv rfl ?_ | refine l_no rfl ?_ | refine tT rfl rfl ?_ | refine tF rfl rfl ?_ | refine lT rfl rfl ?_ | refine lF rfl rfl ?_)
  refine l_opg rfl (o_pure rfl (by kernel_rfl) rfl (fun w1 hw1 => sask_calls 12 w1)) fun _ => ?_
  (repeat first | with_reducible (first | apply t_seq | apply t_region | apply t_block | apply t_ret | apply t_skip | apply t_exit | apply l_nil | apply x_then | apply x_pass_exit | apply x_pass_ret | apply x_block_ret | apply x_block_normal | apply x_block_here | apply x_block_out rfl) | refine lAv rfl ?_ | refine l_no rfl ?_ | refine tT rfl rfl ?_ | refine tF rfl rfl ?_ | refine lT rfl rfl ?_ | refine lF rfl rfl ?_)
  refine t_for (α := Unit) (fun _ => [(1, .pointer (some ⟨bl, 0, none⟩)), (8, .string ⟨y.toArray⟩), (54, .int .i64 0), (55, .int .i64 0)]) (fun _ => True)
    (fun _ => [own 9 1 none 0 [], pt bl (.cells #[.slice none 0 0] 24 (0, 0)), pt bv (.cells #[.map (some bM)] 76 (0, 0)), mapAt bM (allA [y])]) (fun _ => 0) () ⟨rfl, rfl, rfl, rfl, trivial⟩ trivial
    (fun w' hw' => hp_nil1 9 1 (hw'.pick [5, 6, 7] rfl rfl)) fun _ _ => ?_
  (repeat first | with_reducible (first | apply t_seq | apply t_region | apply t_block | apply t_ret | apply t_skip | apply t_exit | apply l_nil | apply x_then | apply x_pass_exit | apply x_pass_ret | apply x_block_ret | apply x_block_normal | apply x_block_here | apply x_block_out rfl) | refine lAv rfl ?_ | refine l_no rfl ?_ | refine tT rfl rfl ?_ | refine tF rfl rfl ?_ | refine lT rfl rfl ?_ | refine lF rfl rfl ?_)
  refine l_op rfl (o_buildslice rfl rfl rfl rfl rfl rfl) fun ⟨bq, hbq⟩ => ?_
  (repeat first | with_reducible (first | apply t_seq | apply t_region | apply t_block | apply t_ret | apply t_skip | apply t_exit | apply l_nil | apply x_then | apply x_pass_exit | apply x_pass_ret | apply x_block_ret | apply x_block_normal | apply x_block_here | apply x_block_out rfl) | refine lAv rfl ?_ | refine l_no rfl ?_ | refine tT rfl rfl ?_ | refine tF rfl rfl ?_ | refine lT rfl rfl ?_ | refine lF rfl rfl ?_)
  refine l_op rfl (ho_perm (bring1 _ _ _) (o_append (news := [.string ⟨y.toArray⟩]) rfl rfl rfl rfl rfl rfl rfl rfl (by omega) (fun w' hw' j v hj => by rw [add_at, Nat.zero_add]; exact own_rd (hw'.item _ (.tail _ (.head _))).1 j v hj))) fun o' => ?_
  (repeat first | with_reducible (first | apply t_seq | apply t_region | apply t_block | apply t_ret | apply t_skip | apply t_exit | apply l_nil | apply x_then | apply x_pass_exit | apply x_pass_ret | apply x_block_ret | apply x_block_normal | apply x_block_here | apply x_block_out rfl) | refine lAv rfl ?_ | refine l_no rfl ?_ | refine tT rfl rfl ?_ | refine tF rfl rfl ?_ | refine lT rfl rfl ?_ | refine lF rfl rfl ?_)
  refine l_op rfl (ho_perm (bring2 _ _ _ _) (o_store1 rfl rfl rfl rfl (slV_cells _ _) (slV_one _ _) (by simp))) fun _ => ?_
  refine l_fact (fun w hw => (own_val (hw.item (own 9 1 o' 1 [.string ⟨y.toArray⟩]) (by simp)).1)) fun ⟨hsl2, hcap2⟩ => ?_
  (repeat first | with_reducible (first | apply t_seq | apply t_region | apply t_block | apply t_ret | apply t_skip | apply t_exit | apply l_nil | apply x_then | apply x_pass_exit | apply x_pass_ret | apply x_block_ret | apply x_block_normal | apply x_block_here | apply x_block_out rfl) | refine lAv rfl ?_ | refine l_no rfl ?_ | refine tT rfl rfl ?_ | refine tF rfl rfl ?_ | refine lT rfl rfl ?_ | refine lF rfl rfl ?_)
  refine l_say 68 _ (.slice (slA o') 1 (slC o')) rfl hsl2 ?_
  (repeat first | with_reducible (first | apply t_seq | apply t_region | apply t_block | apply t_ret | apply t_skip | apply t_exit | apply l_nil | apply x_then | apply x_pass_exit | apply x_pass_ret | apply x_block_ret | apply x_block_normal | apply x_block_here | apply x_block_out rfl) | refine lAv rfl ?_ | refine l_no rfl ?_ | refine tT rfl rfl ?_ | refine tF rfl rfl ?_ | refine lT rfl rfl ?_ | refine lF rfl rfl ?_)
  refine l_opg rfl (o_pure rfl (by kernel_rfl) rfl (fun w1 hw1 => sask_calls 6 w1)) fun _ => ?_
  (repeat first | with_reducible (first | apply t_seq | apply t_region | apply t_block | apply t_ret | apply t_skip | apply t_exit | apply l_nil | apply x_then | apply x_pass_exit | apply x_pass_ret | apply x_block_ret | apply x_block_normal | apply x_block_here | apply x_block_out rfl) | refine lAv rfl ?_ | refine l_no rfl ?_ | refine tT rfl rfl ?_ | refine tF rfl rfl ?_ | refine lT rfl rfl ?_ | refine lF rfl rfl ?_)
  exact x_ct0N o' rfl rfl trivial (.cons_cons _ (.cons_cons _ (.cons _ (.cons_cons _ (List.nil_sublist _))))) (by simp [pt_stable, own_stable])
end Go.Proofs.YtdkonngkbbgcgaaGreatDoor
