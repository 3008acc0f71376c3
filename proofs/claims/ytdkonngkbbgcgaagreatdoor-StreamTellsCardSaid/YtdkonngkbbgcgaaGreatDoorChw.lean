/- package chunk: how children lie in memory; the height, the size. -/
import Derived.Test.YtdkonngkbbgcgaaGreatDoorPkc
import Derived.Test.YtdkonngkbbgcgaaGreatDoorGb
namespace Go.Proofs.YtdkonngkbbgcgaaGreatDoor
open Go.RowKit Go.Eng
set_option maxRecDepth 100000
set_option maxHeartbeats 40000000
theorem list32 : ∀ (h : Bys), h.length = 32 → ∃ x0 x1 x2 x3 x4 x5 x6 x7 x8 x9 x10 x11 x12 x13 x14 x15 x16 x17 x18 x19 x20 x21 x22 x23 x24 x25 x26 x27 x28 x29 x30 x31 : UInt8, h = [x0, x1, x2, x3, x4, x5, x6, x7, x8, x9, x10, x11, x12, x13, x14, x15, x16, x17, x18, x19, x20, x21, x22, x23, x24, x25, x26, x27, x28, x29, x30, x31]
  | [x0, x1, x2, x3, x4, x5, x6, x7, x8, x9, x10, x11, x12, x13, x14, x15, x16, x17, x18, x19, x20, x21, x22, x23, x24, x25, x26, x27, x28, x29, x30, x31], _ => ⟨x0, x1, x2, x3, x4, x5, x6, x7, x8, x9, x10, x11, x12, x13, x14, x15, x16, x17, x18, x19, x20, x21, x22, x23, x24, x25, x26, x27, x28, x29, x30, x31, rfl⟩
theorem hash32_id {h : Bys} (hl : h.length = 32) : hash32 h = h := by rw [hash32, if_pos hl]
/-- A child's cells. -/
def kidV (k : CKid) : List Value := .string ⟨k.name.toArray⟩ :: .bool k.dir :: (bytesV (hash32 k.hash) ++ [.int .u8 (k.height : Int), .int .u32 (k.size : Int)])
theorem kidV_len (k : CKid) : (kidV k).length = 36 := by simp [kidV, bytesV_length, hash32_len]
theorem kid_34 (k : CKid) : (kidV k)[34]? = some (.int .u8 (k.height : Int)) := by
  have hl : (bytesV (hash32 k.hash)).length = 32 := by rw [bytesV_length, hash32_len]
  show ((bytesV (hash32 k.hash)) ++ _)[32]? = _
  rw [List.getElem?_append_right (by omega), hl]; rfl
theorem kid_35 (k : CKid) : (kidV k)[35]? = some (.int .u32 (k.size : Int)) := by
  have hl : (bytesV (hash32 k.hash)).length = 32 := by rw [bytesV_length, hash32_len]
  show ((bytesV (hash32 k.hash)) ++ _)[33]? = _
  rw [List.getElem?_append_right (by omega), hl]; rfl
theorem kid_hash {w : World} {b off : Nat} {k : CKid} (h : w.rangeAt b off (kidV k)) : w.rangeAt b (off + 2) (bytesV (hash32 k.hash)) := fun j v hv => by
  have hl : (bytesV (hash32 k.hash)).length = 32 := by rw [bytesV_length, hash32_len]
  have hj := (List.getElem?_eq_some_iff.1 hv).1
  rw [Nat.add_assoc, Nat.add_comm 2 j]
  refine h (j + 2) v ?_
  show ((bytesV (hash32 k.hash)) ++ _)[j]? = _
  rw [List.getElem?_append_left hj]; exact hv
theorem kid_one (k : CKid) : oneAll (kidV k) = true := by
  rw [oneAll_iff]
  intro v hv
  rcases List.mem_cons.1 hv with rfl | hv
  · rfl
  · rcases List.mem_cons.1 hv with rfl | hv
    · rfl
    · rcases List.mem_append.1 hv with hv | hv
      · exact oneAll_iff.1 (bytesV_one _) v hv
      · rcases List.mem_cons.1 hv with rfl | hv
        · rfl
        · rw [List.mem_singleton] at hv; subst hv; rfl
/-- Children as numbers may be. -/
def KidOk (k : CKid) : Prop := k.hash.length = 32 ∧ k.height < 256 ∧ k.size < 4294967296 ∧ k.name.length ≤ 255
def maxF (ks : List CKid) : Nat := ks.foldl (fun n k => max n (k.height + 1)) 1
theorem max_up (ks : List CKid) {i : Nat} (h : i < ks.length) : maxF (ks.take (i + 1)) = max (maxF (ks.take i)) (ks[i].height + 1) := by
  rw [maxF, List.take_succ_eq_append_getElem h, List.foldl_append]; rfl
theorem sum_up (ks : List CKid) {i : Nat} (h : i < ks.length) : ((ks.take (i + 1)).map (·.size)).sum = ((ks.take i).map (·.size)).sum + ks[i].size := by
  rw [List.take_succ_eq_append_getElem h, List.map_append, List.sum_append]; simp only [List.map_cons, List.map_nil, List.sum_cons, List.sum_nil, Nat.add_zero]
theorem sum_le (ks : List CKid) (hk : ∀ k ∈ ks, KidOk k) (i : Nat) : ((ks.take i).map (·.size)).sum ≤ 4294967296 * i := by
  induction i with
  | zero => simp
  | succ i ih =>
    by_cases h : i < ks.length
    · rw [sum_up ks h]
      have := (hk _ (List.getElem_mem h)).2.2.1
      omega
    · rw [List.take_of_length_le (by omega)]
      rw [List.take_of_length_le (by omega)] at ih
      omega
theorem see_calls (b n h : Nat) (w : World) (hw : ∀ it ∈ [pt b (.cells #[.int .i64 n] 3 (0, 0))], Here it w) :
    Ct Tryz.prog 97 #[.int .i64 h, .pointer (some ⟨b, 0, none⟩)] w (foots [pt b (.cells #[.int .i64 n] 3 (0, 0))]) (fun _ : Unit => .tuple #[]) (fun _ => True) (fun _ => [pt b (.cells #[.int .i64 (max n h : Nat)] 3 (0, 0))]) := by
  refine cu_of [_, _] _ Tryz.func97 rfl rfl hw (.cons (fun _ h => nomatch h) .nil) ?_
  simp only [argSlots, Nat.reduceAdd]
  (repeat first | with_reducible (first | apply t_seq | apply t_region | apply t_block | apply t_ret | apply t_skip | apply t_exit | apply l_nil | apply x_then | apply x_pass_exit | apply x_pass_ret | apply x_block_ret | apply x_block_normal | apply x_block_here | apply x_block_out rfl) | refine lAv rfl ?_ | refine l_no rfl ?_ | refine tT rfl rfl ?_ | refine tF rfl rfl ?_ | refine lT rfl rfl ?_ | refine lF rfl rfl ?_)
  refine l_w rfl (v_max rfl rfl) ?_
  (repeat first | with_reducible (first | apply t_seq | apply t_region | apply t_block | apply t_ret | apply t_skip | apply t_exit | apply l_nil | apply x_then | apply x_pass_exit | apply x_pass_ret | apply x_block_ret | apply x_block_normal | apply x_block_here | apply x_block_out rfl) | refine lAv rfl ?_ | refine l_no rfl ?_ | refine tT rfl rfl ?_ | refine tF rfl rfl ?_ | refine lT rfl rfl ?_ | refine lF rfl rfl ?_)
  refine l_op rfl (o_store1 rfl rfl rfl rfl rfl rfl (by simp)) fun _ => ?_
  (repeat first | with_reducible (first | apply t_seq | apply t_region | apply t_block | apply t_ret | apply t_skip | apply t_exit | apply l_nil | apply x_then | apply x_pass_exit | apply x_pass_ret | apply x_block_ret | apply x_block_normal | apply x_block_here | apply x_block_out rfl) | refine lAv rfl ?_ | refine l_no rfl ?_ | refine tT rfl rfl ?_ | refine tF rfl rfl ?_ | refine lT rfl rfl ?_ | refine lF rfl rfl ?_)
  exact x_ct0N () rfl rfl trivial (.refl _) (by simp [pt_stable])
theorem height_calls (kind : Nat) (data : Bys) (ks : List CKid) (a : Option Addr) (c : Nat) (hk : ∀ k ∈ ks, KidOk k) (hz : ks.length ≤ 1000000) (w : World) (hr : Rd w a (rowsV kidV ks)) :
    Pu Tryz.prog 88 #[.agg #[.int .u8 kind, .string ⟨data.toArray⟩, .slice a ks.length c]] w (.int .i64 (hgtF kind ks)) := by
  refine pu_of [_] Tryz.func88 rfl rfl ?_
  simp only [argSlots]
  (repeat first | with_reducible (first | apply t_seq | apply t_region | apply t_block | apply t_ret | apply t_skip | apply t_exit | apply l_nil | apply x_then | apply x_pass_exit | apply x_pass_ret | apply x_block_ret | apply x_block_normal | apply x_block_here | apply x_block_out rfl) | refine lAv rfl ?_ | refine l_no rfl ?_ | refine tT rfl rfl ?_ | refine tF rfl rfl ?_ | refine lT rfl rfl ?_ | refine lF rfl rfl ?_)
  refine l_boxa rfl rfl fun b1 hb1 => ?_
  (repeat first | with_reducible (first | apply t_seq | apply t_region | apply t_block | apply t_ret | apply t_skip | apply t_exit | apply l_nil | apply x_then | apply x_pass_exit | apply x_pass_ret | apply x_block_ret | apply x_block_normal | apply x_block_here | apply x_block_out rfl) | refine lAv rfl ?_ | refine l_no rfl ?_ | refine tT rfl rfl ?_ | refine tF rfl rfl ?_ | refine lT rfl rfl ?_ | refine lF rfl rfl ?_)
  refine l_alloc1 rfl rfl rfl fun b3 hb3 => ?_
  refine l_op rfl (o_store1 rfl rfl rfl rfl rfl rfl (by simp)) fun _ => ?_
  have hrest : kind = 2 ∨ kind = 3 → hgtF kind ks = maxF ks := fun h => by rw [hgtF, if_pos h]; rfl
  by_cases hkd : kind = 2 ∨ kind = 3
  · rw [hrest hkd]
    have hm0 : max 0 1 = maxF (ks.take 0) := by rw [List.take_zero]; rfl
    rcases hkd with hkd | hkd
    all_goals
      (repeat first | with_reducible (first | apply t_seq | apply t_region | apply t_block | apply t_ret | apply t_skip | apply t_exit | apply l_nil | apply x_then | apply x_pass_exit | apply x_pass_ret | apply x_block_ret | apply x_block_normal | apply x_block_here | apply x_block_out rfl) | refine lAv rfl ?_ | refine l_no rfl ?_ | refine tT rfl rfl ?_ | refine tF rfl rfl ?_ | refine lT rfl rfl ?_ | refine lF rfl rfl ?_)
      refine l_w rfl (v_mkf rfl) ?_
      (repeat first | with_reducible (first | apply t_seq | apply t_region | apply t_block | apply t_ret | apply t_skip | apply t_exit | apply l_nil | apply x_then | apply x_pass_exit | apply x_pass_ret | apply x_block_ret | apply x_block_normal | apply x_block_here | apply x_block_out rfl) | refine lAv rfl ?_ | refine l_no rfl ?_ | refine tT rfl rfl ?_ | refine tF rfl rfl ?_ | refine lT rfl rfl ?_ | refine lF rfl rfl ?_)
      refine l_opg rfl (o_cuF (pre := [pt b3 (.cells #[.int .i64 (0 : Nat)] 3 (0, 0))]) (fs := []) (cs := [.pointer (some ⟨b3, 0, none⟩)]) rfl (by kernel_rfl) rfl rfl rfl (by simp [pt_stable]) (fun w1 hw1 hh1 ha1 => see_calls b3 0 1 w1 hh1)) fun _ => ?_
      rw [hm0]
      (repeat first | with_reducible (first | apply t_seq | apply t_region | apply t_block | apply t_ret | apply t_skip | apply t_exit | apply l_nil | apply x_then | apply x_pass_exit | apply x_pass_ret | apply x_block_ret | apply x_block_normal | apply x_block_here | apply x_block_out rfl) | refine lAv rfl ?_ | refine l_no rfl ?_ | refine tT rfl rfl ?_ | refine tF rfl rfl ?_ | refine lT rfl rfl ?_ | refine lF rfl rfl ?_)
      refine t_for (α := Nat) (fun i => [(3, .pointer (some ⟨b3, 0, none⟩)), (4, .func (.func 97) #[] #[.pointer (some ⟨b3, 0, none⟩)]), (19, .slice a ks.length c), (20, .int .i64 ks.length), (21, .int .i64 i)]) (fun i => i ≤ ks.length)
        (fun i => [pt b3 (.cells #[.int .i64 (maxF (ks.take i) : Nat)] 3 (0, 0))]) (fun i => ks.length - i) 0 ⟨rfl, rfl, rfl, rfl, rfl, trivial⟩ (Nat.zero_le _) (fun w' hw' => hw'.sub (.cons_cons _ (List.nil_sublist _))) fun i hi => ?_
      by_cases hi2 : i < ks.length
      · obtain ⟨b, off, rfl, hr'⟩ := hr.at_ (by intro h; have := congrArg List.length h; rw [rowsV_length kidV_len] at this; simp at this; omega)
        have hup := max_up ks hi2
        have hko := hk _ (List.getElem_mem hi2)
        have hrow : ∀ (m : List Eng.Item) w', Hp w none' m w' → w'.rangeAt b (off + i * 36) (kidV ks[i]) := fun m w' hw' => Rd.row kidV_len (rangeAt_old hr' (fun h => h) hw') hi2
        generalize ks[i] = k at hup hko hrow
        have h256 := hko.2.1
        have hkl := kidV_len k
        (repeat first | with_reducible (first | apply t_seq | apply t_region | apply t_block | apply t_ret | apply t_skip | apply t_exit | apply l_nil | apply x_then | apply x_pass_exit | apply x_pass_ret | apply x_block_ret | apply x_block_normal | apply x_block_here | apply x_block_out rfl) | refine lAv rfl ?_ | refine l_no rfl ?_ | refine tT rfl rfl ?_ | refine tF rfl rfl ?_ | refine lT rfl rfl ?_ | refine lF rfl rfl ?_)
        refine l_w rfl (v_loadc (xs := kidV k) rfl (by rw [kidV_len]; rfl) (fun w' hw' => hrow _ w' hw')) ?_
        refine l_alloca rfl rfl fun b6 hb6 => ?_
        refine l_op rfl (o_storea (cs' := (kidV k).toArray) rfl rfl rfl (by rw [List.size_toArray, kidV_len]; rfl) (by rw [List.toList_toArray]; exact kid_one k) (by rw [List.size_toArray, kidV_len]; rfl)) fun _ => ?_
        (repeat first | with_reducible (first | apply t_seq | apply t_region | apply t_block | apply t_ret | apply t_skip | apply t_exit | apply l_nil | apply x_then | apply x_pass_exit | apply x_pass_ret | apply x_block_ret | apply x_block_normal | apply x_block_here | apply x_block_out rfl) | refine lAv rfl ?_ | refine l_no rfl ?_ | refine tT rfl rfl ?_ | refine tF rfl rfl ?_ | refine lT rfl rfl ?_ | refine lF rfl rfl ?_)
        refine l_w rfl (v_loadp rfl rfl (.head _) (by rw [List.getElem?_toArray]; exact kid_34 k)) ?_
        (repeat first | with_reducible (first | apply t_seq | apply t_region | apply t_block | apply t_ret | apply t_skip | apply t_exit | apply l_nil | apply x_then | apply x_pass_exit | apply x_pass_ret | apply x_block_ret | apply x_block_normal | apply x_block_here | apply x_block_out rfl) | refine lAv rfl ?_ | refine l_no rfl ?_ | refine tT rfl rfl ?_ | refine tF rfl rfl ?_ | refine lT rfl rfl ?_ | refine lF rfl rfl ?_)
        refine l_perm (bring1 _ _ _) ?_
        refine l_opg rfl (o_cuF (pre := [pt b3 (.cells #[.int .i64 (maxF (ks.take i) : Nat)] 3 (0, 0))]) (fs := []) (cs := [.pointer (some ⟨b3, 0, none⟩)]) rfl (by kernel_rfl) rfl rfl rfl (by simp [pt_stable]) (fun w1 hw1 hh1 ha1 => see_calls b3 _ (k.height + 1) w1 hh1)) fun _ => ?_
        rw [← hup]
        (repeat first | with_reducible (first | apply t_seq | apply t_region | apply t_block | apply t_ret | apply t_skip | apply t_exit | apply l_nil | apply x_then | apply x_pass_exit | apply x_pass_ret | apply x_block_ret | apply x_block_normal | apply x_block_here | apply x_block_out rfl) | refine lAv rfl ?_ | refine l_no rfl ?_ | refine tT rfl rfl ?_ | refine tF rfl rfl ?_ | refine lT rfl rfl ?_ | refine lF rfl rfl ?_)
        exact x_round (i + 1) ⟨rfl, rfl, rfl, rfl, rfl, trivial⟩ hi2 (fun w' hw' => hw'.sub (.cons_cons _ (List.nil_sublist _))) (by omega)
      · obtain rfl : i = ks.length := by omega
        rw [List.take_length]
        (repeat first | with_reducible (first | apply t_seq | apply t_region | apply t_block | apply t_ret | apply t_skip | apply t_exit | apply l_nil | apply x_then | apply x_pass_exit | apply x_pass_ret | apply x_block_ret | apply x_block_normal | apply x_block_here | apply x_block_out rfl) | refine lAv rfl ?_ | refine l_no rfl ?_ | refine tT rfl rfl ?_ | refine tF rfl rfl ?_ | refine lT rfl rfl ?_ | refine lF rfl rfl ?_)
        exact x_pu rfl rfl rfl
  · have h0 : hgtF kind ks = 0 := by rw [hgtF, if_neg hkd]
    rw [h0]
    have h2 : ¬ kind = 2 := fun h => hkd (.inl h)
    have h3 : ¬ kind = 3 := fun h => hkd (.inr h)
    (repeat first | with_reducible (first | apply t_seq | apply t_region | apply t_block | apply t_ret | apply t_skip | apply t_exit | apply l_nil | apply x_then | apply x_pass_exit | apply x_pass_ret | apply x_block_ret | apply x_block_normal | apply x_block_here | apply x_block_out rfl) | refine lAv rfl ?_ | refine l_no rfl ?_ | refine tT rfl rfl ?_ | refine tF rfl rfl ?_ | refine lT rfl rfl ?_ | refine lF rfl rfl ?_)
    refine l_w rfl (v_mkf rfl) ?_
    (repeat first | with_reducible (first | apply t_seq | apply t_region | apply t_block | apply t_ret | apply t_skip | apply t_exit | apply l_nil | apply x_then | apply x_pass_exit | apply x_pass_ret | apply x_block_ret | apply x_block_normal | apply x_block_here | apply x_block_out rfl) | refine lAv rfl ?_ | refine l_no rfl ?_ | refine tT rfl rfl ?_ | refine tF rfl rfl ?_ | refine lT rfl rfl ?_ | refine lF rfl rfl ?_)
    exact x_pu rfl rfl rfl
end Go.Proofs.YtdkonngkbbgcgaaGreatDoor
