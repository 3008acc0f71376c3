/- package chunk: the size; whether a child is plain; whether a chunk may be. -/
import Derived.Test.YtdkonngkbbgcgaaGreatDoorChw
namespace Go.Proofs.YtdkonngkbbgcgaaGreatDoor
open Go.RowKit Go.Eng
set_option maxRecDepth 100000
set_option maxHeartbeats 40000000
theorem size_calls (kind : Nat) (data : Bys) (ks : List CKid) (a : Option Addr) (c : Nat) (hk : ∀ k ∈ ks, KidOk k) (hz : ks.length ≤ 1000000) (hdz : data.length ≤ 1000000000) (w : World) (hr : Rd w a (rowsV kidV ks)) :
    Pu Tryz.prog 90 #[.agg #[.int .u8 kind, .string ⟨data.toArray⟩, .slice a ks.length c]] w (.int .u64 (sizeF ⟨kind, data, ks⟩)) := by
  refine pu_of [_] Tryz.func90 rfl rfl ?_
  simp only [argSlots]
  (repeat first | with_reducible (first | apply t_seq | apply t_region | apply t_block | apply t_ret | apply t_skip | apply t_exit | apply l_nil | apply x_then | apply x_pass_exit | apply x_pass_ret | apply x_block_ret | apply x_block_normal | apply x_block_here | apply x_block_out rfl) | refine lAv rfl ?_ | refine l_no rfl ?_ | refine tT rfl rfl ?_ | refine tF rfl rfl ?_ | refine lT rfl rfl ?_ | refine lF rfl rfl ?_)
  refine l_boxa rfl rfl fun b1 hb1 => ?_
  have hds : (⟨data.toArray⟩ : ByteArray).size = data.length := by simp [ByteArray.size]
  by_cases h2 : kind = 2
  · have hs : sizeF ⟨kind, data, ks⟩ = (ks.map (·.size)).sum := by rw [sizeF, if_pos h2]
    rw [hs]
    (repeat first | with_reducible (first | apply t_seq | apply t_region | apply t_block | apply t_ret | apply t_skip | apply t_exit | apply l_nil | apply x_then | apply x_pass_exit | apply x_pass_ret | apply x_block_ret | apply x_block_normal | apply x_block_here | apply x_block_out rfl) | refine lAv rfl ?_ | refine l_no rfl ?_ | refine tT rfl rfl ?_ | refine tF rfl rfl ?_ | refine lT rfl rfl ?_ | refine lF rfl rfl ?_)
    refine t_for (α := Nat) (fun i => [(3, .int .u64 (((ks.take i).map (·.size)).sum : Nat)), (11, .slice a ks.length c), (12, .int .i64 ks.length), (13, .int .i64 i)]) (fun i => i ≤ ks.length)
      (fun _ => []) (fun i => ks.length - i) 0 ⟨rfl, rfl, rfl, rfl, trivial⟩ (Nat.zero_le _) (fun w' hw' => hw'.sub (List.nil_sublist _)) fun i hi => ?_
    by_cases hi2 : i < ks.length
    · obtain ⟨b, off, rfl, hr'⟩ := hr.at_ (by intro h; have := congrArg List.length h; rw [rowsV_length kidV_len] at this; simp at this; omega)
      have hup := sum_up ks hi2
      have hle := sum_le ks hk (i + 1)
      have hko := hk _ (List.getElem_mem hi2)
      have hrow : ∀ (m : List Eng.Item) w', Hp w none' m w' → w'.rangeAt b (off + i * 36) (kidV ks[i]) := fun m w' hw' => Rd.row kidV_len (rangeAt_old hr' (fun h => h) hw') hi2
      generalize ks[i] = k at hup hko hrow
      have h256 := hko.2.2.1
      rw [hup] at hle
      generalize ((ks.take i).map (·.size)).sum = S at hup hle
      (repeat first | with_reducible (first | apply t_seq | apply t_region | apply t_block | apply t_ret | apply t_skip | apply t_exit | apply l_nil | apply x_then | apply x_pass_exit | apply x_pass_ret | apply x_block_ret | apply x_block_normal | apply x_block_here | apply x_block_out rfl) | refine lAv rfl ?_ | refine l_no rfl ?_ | refine tT rfl rfl ?_ | refine tF rfl rfl ?_ | refine lT rfl rfl ?_ | refine lF rfl rfl ?_)
      refine l_w rfl (v_loadc (xs := kidV k) rfl (by rw [kidV_len]; rfl) (fun w' hw' => hrow _ w' hw')) ?_
      refine l_alloca rfl rfl fun b6 hb6 => ?_
      refine l_op rfl (o_storea (cs' := (kidV k).toArray) rfl rfl rfl (by rw [List.size_toArray, kidV_len]; rfl) (by rw [List.toList_toArray]; exact kid_one k) (by rw [List.size_toArray, kidV_len]; rfl)) fun _ => ?_
      (repeat first | with_reducible (first | apply t_seq | apply t_region | apply t_block | apply t_ret | apply t_skip | apply t_exit | apply l_nil | apply x_then | apply x_pass_exit | apply x_pass_ret | apply x_block_ret | apply x_block_normal | apply x_block_here | apply x_block_out rfl) | refine lAv rfl ?_ | refine l_no rfl ?_ | refine tT rfl rfl ?_ | refine tF rfl rfl ?_ | refine lT rfl rfl ?_ | refine lF rfl rfl ?_)
      refine l_w rfl (v_loadp rfl rfl (.head _) (by rw [List.getElem?_toArray]; exact kid_35 k)) ?_
      (repeat first | with_reducible (first | apply t_seq | apply t_region | apply t_block | apply t_ret | apply t_skip | apply t_exit | apply l_nil | apply x_then | apply x_pass_exit | apply x_pass_ret | apply x_block_ret | apply x_block_normal | apply x_block_here | apply x_block_out rfl) | refine lAv rfl ?_ | refine l_no rfl ?_ | refine tT rfl rfl ?_ | refine tF rfl rfl ?_ | refine lT rfl rfl ?_ | refine lF rfl rfl ?_)
      rw [← hup]
      exact x_round (i + 1) ⟨rfl, rfl, rfl, rfl, trivial⟩ hi2 (fun w' hw' => hw'.sub (List.nil_sublist _)) (by omega)
    · obtain rfl : i = ks.length := by omega
      rw [List.take_length]
      (repeat first | with_reducible (first | apply t_seq | apply t_region | apply t_block | apply t_ret | apply t_skip | apply t_exit | apply l_nil | apply x_then | apply x_pass_exit | apply x_pass_ret | apply x_block_ret | apply x_block_normal | apply x_block_here | apply x_block_out rfl) | refine lAv rfl ?_ | refine l_no rfl ?_ | refine tT rfl rfl ?_ | refine tF rfl rfl ?_ | refine lT rfl rfl ?_ | refine lF rfl rfl ?_)
      exact x_pu rfl rfl rfl
  · by_cases h3 : kind = 3
    · have hs : sizeF ⟨kind, data, ks⟩ = 0 := by rw [sizeF, if_neg h2, if_pos h3]
      rw [hs]
      (repeat first | with_reducible (first | apply t_seq | apply t_region | apply t_block | apply t_ret | apply t_skip | apply t_exit | apply l_nil | apply x_then | apply x_pass_exit | apply x_pass_ret | apply x_block_ret | apply x_block_normal | apply x_block_here | apply x_block_out rfl) | refine lAv rfl ?_ | refine l_no rfl ?_ | refine tT rfl rfl ?_ | refine tF rfl rfl ?_ | refine lT rfl rfl ?_ | refine lF rfl rfl ?_)
      exact x_pu rfl rfl rfl
    · have hs : sizeF ⟨kind, data, ks⟩ = data.length := by rw [sizeF, if_neg h2, if_neg h3]
      rw [hs]
      (repeat first | with_reducible (first | apply t_seq | apply t_region | apply t_block | apply t_ret | apply t_skip | apply t_exit | apply l_nil | apply x_then | apply x_pass_exit | apply x_pass_ret | apply x_block_ret | apply x_block_normal | apply x_block_here | apply x_block_out rfl) | refine lAv rfl ?_ | refine l_no rfl ?_ | refine tT rfl rfl ?_ | refine tF rfl rfl ?_ | refine lT rfl rfl ?_ | refine lF rfl rfl ?_)
      rw [hds]
      (repeat first | with_reducible (first | apply t_seq | apply t_region | apply t_block | apply t_ret | apply t_skip | apply t_exit | apply l_nil | apply x_then | apply x_pass_exit | apply x_pass_ret | apply x_block_ret | apply x_block_normal | apply x_block_here | apply x_block_out rfl) | refine lAv rfl ?_ | refine l_no rfl ?_ | refine tT rfl rfl ?_ | refine tF rfl rfl ?_ | refine lT rfl rfl ?_ | refine lF rfl rfl ?_)
      exact x_pu rfl rfl rfl
theorem plain_calls (k : CKid) (hl : k.hash.length = 32) (w : World) : Pu Tryz.prog 89 #[.agg (kidV k).toArray] w (.bool (decide (k.name = [] ∧ k.dir = false))) := by
  obtain ⟨x0, x1, x2, x3, x4, x5, x6, x7, x8, x9, x10, x11, x12, x13, x14, x15, x16, x17, x18, x19, x20, x21, x22, x23, x24, x25, x26, x27, x28, x29, x30, x31, hx⟩ := list32 k.hash hl
  have hv : kidV k = [.string ⟨k.name.toArray⟩, .bool k.dir, .int .u8 (x0.toNat : Int), .int .u8 (x1.toNat : Int), .int .u8 (x2.toNat : Int), .int .u8 (x3.toNat : Int), .int .u8 (x4.toNat : Int), .int .u8 (x5.toNat : Int), .int .u8 (x6.toNat : Int), .int .u8 (x7.toNat : Int), .int .u8 (x8.toNat : Int), .int .u8 (x9.toNat : Int), .int .u8 (x10.toNat : Int), .int .u8 (x11.toNat : Int), .int .u8 (x12.toNat : Int), .int .u8 (x13.toNat : Int), .int .u8 (x14.toNat : Int), .int .u8 (x15.toNat : Int), .int .u8 (x16.toNat : Int), .int .u8 (x17.toNat : Int), .int .u8 (x18.toNat : Int), .int .u8 (x19.toNat : Int), .int .u8 (x20.toNat : Int), .int .u8 (x21.toNat : Int), .int .u8 (x22.toNat : Int), .int .u8 (x23.toNat : Int), .int .u8 (x24.toNat : Int), .int .u8 (x25.toNat : Int), .int .u8 (x26.toNat : Int), .int .u8 (x27.toNat : Int), .int .u8 (x28.toNat : Int), .int .u8 (x29.toNat : Int), .int .u8 (x30.toNat : Int), .int .u8 (x31.toNat : Int), .int .u8 (k.height : Int), .int .u32 (k.size : Int)] := by rw [kidV, hash32_id hl, hx]; rfl
  rw [hv]
  generalize k.name = n
  generalize k.dir = d
  generalize k.height = h
  generalize k.size = s
  refine pu_of [_] Tryz.func89 rfl rfl ?_
  simp only [argSlots]
  (repeat first | with_reducible (first | apply t_seq | apply t_region | apply t_block | apply t_ret | apply t_skip | apply t_exit | apply l_nil | apply x_then | apply x_pass_exit | apply x_pass_ret | apply x_block_ret | apply x_block_normal | apply x_block_here | apply x_block_out rfl) | refine lAv rfl ?_ | refine l_no rfl ?_ | refine tT rfl rfl ?_ | refine tF rfl rfl ?_ | refine lT rfl rfl ?_ | refine lF rfl rfl ?_)
  refine l_boxa rfl rfl fun b1 hb1 => ?_
  (repeat first | with_reducible (first | apply t_seq | apply t_region | apply t_block | apply t_ret | apply t_skip | apply t_exit | apply l_nil | apply x_then | apply x_pass_exit | apply x_pass_ret | apply x_block_ret | apply x_block_normal | apply x_block_here | apply x_block_out rfl) | refine lAv rfl ?_ | refine l_no rfl ?_ | refine tT rfl rfl ?_ | refine tF rfl rfl ?_ | refine lT rfl rfl ?_ | refine lF rfl rfl ?_)
  refine l_w rfl (v_loadcE (xs := [.int .u8 (x0.toNat : Int), .int .u8 (x1.toNat : Int), .int .u8 (x2.toNat : Int), .int .u8 (x3.toNat : Int), .int .u8 (x4.toNat : Int), .int .u8 (x5.toNat : Int), .int .u8 (x6.toNat : Int), .int .u8 (x7.toNat : Int), .int .u8 (x8.toNat : Int), .int .u8 (x9.toNat : Int), .int .u8 (x10.toNat : Int), .int .u8 (x11.toNat : Int), .int .u8 (x12.toNat : Int), .int .u8 (x13.toNat : Int), .int .u8 (x14.toNat : Int), .int .u8 (x15.toNat : Int), .int .u8 (x16.toNat : Int), .int .u8 (x17.toNat : Int), .int .u8 (x18.toNat : Int), .int .u8 (x19.toNat : Int), .int .u8 (x20.toNat : Int), .int .u8 (x21.toNat : Int), .int .u8 (x22.toNat : Int), .int .u8 (x23.toNat : Int), .int .u8 (x24.toNat : Int), .int .u8 (x25.toNat : Int), .int .u8 (x26.toNat : Int), .int .u8 (x27.toNat : Int), .int .u8 (x28.toNat : Int), .int .u8 (x29.toNat : Int), .int .u8 (x30.toNat : Int), .int .u8 (x31.toNat : Int)]) rfl rfl (fun w' hw' => rangeAt_take (k := 32) (rangeAt_drop (k := 2) (rangeAt_pt (hw'.get (.head _))))) rfl) ?_
  (repeat first | with_reducible (first | apply t_seq | apply t_region | apply t_block | apply t_ret | apply t_skip | apply t_exit | apply l_nil | apply x_then | apply x_pass_exit | apply x_pass_ret | apply x_block_ret | apply x_block_normal | apply x_block_here | apply x_block_out rfl) | refine lAv rfl ?_ | refine l_no rfl ?_ | refine tT rfl rfl ?_ | refine tF rfl rfl ?_ | refine lT rfl rfl ?_ | refine lF rfl rfl ?_)
  refine l_say 10 _ (.agg #[.string ⟨#[]⟩, .bool false, .int .u8 (x0.toNat : Int), .int .u8 (x1.toNat : Int), .int .u8 (x2.toNat : Int), .int .u8 (x3.toNat : Int), .int .u8 (x4.toNat : Int), .int .u8 (x5.toNat : Int), .int .u8 (x6.toNat : Int), .int .u8 (x7.toNat : Int), .int .u8 (x8.toNat : Int), .int .u8 (x9.toNat : Int), .int .u8 (x10.toNat : Int), .int .u8 (x11.toNat : Int), .int .u8 (x12.toNat : Int), .int .u8 (x13.toNat : Int), .int .u8 (x14.toNat : Int), .int .u8 (x15.toNat : Int), .int .u8 (x16.toNat : Int), .int .u8 (x17.toNat : Int), .int .u8 (x18.toNat : Int), .int .u8 (x19.toNat : Int), .int .u8 (x20.toNat : Int), .int .u8 (x21.toNat : Int), .int .u8 (x22.toNat : Int), .int .u8 (x23.toNat : Int), .int .u8 (x24.toNat : Int), .int .u8 (x25.toNat : Int), .int .u8 (x26.toNat : Int), .int .u8 (x27.toNat : Int), .int .u8 (x28.toNat : Int), .int .u8 (x29.toNat : Int), .int .u8 (x30.toNat : Int), .int .u8 (x31.toNat : Int), .int .u8 (h : Int), .int .u32 (s : Int)]) rfl rfl ?_
  refine l_w rfl (v_eqa 5 (ls := [9, 4, 5, 5, 5, 5, 5, 5, 5, 5, 5, 5, 5, 5, 5, 5, 5, 5, 5, 5, 5, 5, 5, 5, 5, 5, 5, 5, 5, 5, 5, 5, 5, 5, 5, 29]) rfl rfl rfl rfl (by kernel_rfl) (by decide) (by simp only [fitAll]; repeat' first | apply And.intro | rfl | trivial) (by simp only [fitAll]; repeat' first | apply And.intro | rfl | trivial)) ?_
  have hb : rowEq [.string ⟨n.toArray⟩, .bool d, .int .u8 (x0.toNat : Int), .int .u8 (x1.toNat : Int), .int .u8 (x2.toNat : Int), .int .u8 (x3.toNat : Int), .int .u8 (x4.toNat : Int), .int .u8 (x5.toNat : Int), .int .u8 (x6.toNat : Int), .int .u8 (x7.toNat : Int), .int .u8 (x8.toNat : Int), .int .u8 (x9.toNat : Int), .int .u8 (x10.toNat : Int), .int .u8 (x11.toNat : Int), .int .u8 (x12.toNat : Int), .int .u8 (x13.toNat : Int), .int .u8 (x14.toNat : Int), .int .u8 (x15.toNat : Int), .int .u8 (x16.toNat : Int), .int .u8 (x17.toNat : Int), .int .u8 (x18.toNat : Int), .int .u8 (x19.toNat : Int), .int .u8 (x20.toNat : Int), .int .u8 (x21.toNat : Int), .int .u8 (x22.toNat : Int), .int .u8 (x23.toNat : Int), .int .u8 (x24.toNat : Int), .int .u8 (x25.toNat : Int), .int .u8 (x26.toNat : Int), .int .u8 (x27.toNat : Int), .int .u8 (x28.toNat : Int), .int .u8 (x29.toNat : Int), .int .u8 (x30.toNat : Int), .int .u8 (x31.toNat : Int), .int .u8 (h : Int), .int .u32 (s : Int)] [.string ⟨#[]⟩, .bool false, .int .u8 (x0.toNat : Int), .int .u8 (x1.toNat : Int), .int .u8 (x2.toNat : Int), .int .u8 (x3.toNat : Int), .int .u8 (x4.toNat : Int), .int .u8 (x5.toNat : Int), .int .u8 (x6.toNat : Int), .int .u8 (x7.toNat : Int), .int .u8 (x8.toNat : Int), .int .u8 (x9.toNat : Int), .int .u8 (x10.toNat : Int), .int .u8 (x11.toNat : Int), .int .u8 (x12.toNat : Int), .int .u8 (x13.toNat : Int), .int .u8 (x14.toNat : Int), .int .u8 (x15.toNat : Int), .int .u8 (x16.toNat : Int), .int .u8 (x17.toNat : Int), .int .u8 (x18.toNat : Int), .int .u8 (x19.toNat : Int), .int .u8 (x20.toNat : Int), .int .u8 (x21.toNat : Int), .int .u8 (x22.toNat : Int), .int .u8 (x23.toNat : Int), .int .u8 (x24.toNat : Int), .int .u8 (x25.toNat : Int), .int .u8 (x26.toNat : Int), .int .u8 (x27.toNat : Int), .int .u8 (x28.toNat : Int), .int .u8 (x29.toNat : Int), .int .u8 (x30.toNat : Int), .int .u8 (x31.toNat : Int), .int .u8 (h : Int), .int .u32 (s : Int)] = decide (n = [] ∧ d = false) := by
    have hr : ∀ (a : Int) (l m : List Value) (k k' : IntKind), rowEq (.int k a :: l) (.int k' a :: m) = rowEq l m := fun a l m k k' => by simp [rowEq, leafEq]
    have h0 : ∀ (a b : Value) (l m : List Value), rowEq (a :: l) (b :: m) = (leafEq a b && rowEq l m) := fun _ _ _ _ => rfl
    rw [h0, h0]
    simp only [hr]
    have hn : ((⟨n.toArray⟩ : ByteArray) == ⟨#[]⟩) = decide (n = []) := by
      cases n with
      | nil => rfl
      | cons c n =>
        show ((c :: n).toArray == (#[] : Array UInt8)) = _
        simp
    simp only [leafEq, hn, rowEq, Bool.and_true]
    cases d <;> simp
  refine l_say 11 _ _ rfl (congrArg Value.bool hb) ?_
  (repeat first | with_reducible (first | apply t_seq | apply t_region | apply t_block | apply t_ret | apply t_skip | apply t_exit | apply l_nil | apply x_then | apply x_pass_exit | apply x_pass_ret | apply x_block_ret | apply x_block_normal | apply x_block_here | apply x_block_out rfl) | refine lAv rfl ?_ | refine l_no rfl ?_ | refine tT rfl rfl ?_ | refine tF rfl rfl ?_ | refine lT rfl rfl ?_ | refine lF rfl rfl ?_)
  exact x_pu rfl rfl rfl
end Go.Proofs.YtdkonngkbbgcgaaGreatDoor
