/- law 33: StreamTells is true at every input. -/
import Derived.Test.YtdkonngkbbgcgaaGreatDoorRtr
import Derived.Test.YtdkonngkbbgcgaaGreatDoorLwc
namespace Go.Proofs.YtdkonngkbbgcgaaGreatDoor
open Go.RowKit Go.Eng
set_option maxRecDepth 100000
set_option maxHeartbeats 40000000
theorem takeF_sizes (b : Bys) (hb : b.length ≤ 5000) : ((takeF b).1.getD noS).root.length = 32 ∧ ((takeF b).1.getD noS).chunks.length ≤ 100000 ∧ ∀ x ∈ ((takeF b).1.getD noS).chunks, x.length ≤ 65535 := by
  have hroot := takeF_root b
  refine ⟨hroot, ?_⟩
  by_cases hf : (takeF b).2 = 0
  · obtain ⟨y, hy, hym, hyp, hyd⟩ := take_ok hf
    rw [hy] at hroot ⊢
    simp only [Option.getD_some] at hroot ⊢
    have hyl := put_size hroot
    rw [hyp] at hyl
    have hcnt := chP_count y.chunks
    exact ⟨by omega, fun x hx => by have := chP_mem y.chunks x hx; omega⟩
  · rw [take_none hf]
    exact ⟨by decide, fun _ h => nomatch h⟩
theorem tells_calls (r : Bys) (l : List Bys) (a : Option Addr) (c : Nat) (b : Bys) (hr : r.length = 32) (hl : l.length ≤ 9223372036854775807) (hb63 : b.length ≤ 9223372036854775807) (w : World) (hA : StrL w a c (bas l)) (ht : Tabs w) :
    Pu Tryz.prog 3 #[.agg (strmA r a l.length c), .string ⟨b.toArray⟩] w (.bool true) := by
  refine pu_of [_, _] Tryz.func3 rfl rfl ?_
  simp only [argSlots, Nat.reduceAdd]
  have hbl := ba_len b
  (repeat first | with_reducible (first | apply t_seq | apply t_region | apply t_block | apply t_ret | apply t_skip | apply t_exit | apply l_nil | apply x_then | apply x_pass_exit | apply x_pass_ret | apply x_block_ret | apply x_block_normal | apply x_block_here | apply x_block_out rfl) | refine lAv rfl ?_ | refine l_no rfl ?_ | refine tT rfl rfl ?_ | refine tF rfl rfl ?_ | refine lT rfl rfl ?_ | refine lF rfl rfl ?_)
  refine l_boxa rfl rfl fun b2 hb2 => ?_
  (repeat first | with_reducible (first | apply t_seq | apply t_region | apply t_block | apply t_ret | apply t_skip | apply t_exit | apply l_nil | apply x_then | apply x_pass_exit | apply x_pass_ret | apply x_block_ret | apply x_block_normal | apply x_block_here | apply x_block_out rfl) | refine lAv rfl ?_ | refine l_no rfl ?_ | refine tT rfl rfl ?_ | refine tF rfl rfl ?_ | refine lT rfl rfl ?_ | refine lF rfl rfl ?_)
  refine l_w rfl (v_loada rfl (by rw [strm_size r hr]; rfl) (.head _)) ?_
  refine l_opg rfl (o_pure rfl (by kernel_rfl) rfl (fun w1 hw1 => great33_calls r l a c hr hl w1 (hA.keep hw1))) fun _ => ?_
  by_cases hG : greatS l = true
  · rw [hG]
    (repeat first | with_reducible (first | apply t_seq | apply t_region | apply t_block | apply t_ret | apply t_skip | apply t_exit | apply l_nil | apply x_then | apply x_pass_exit | apply x_pass_ret | apply x_block_ret | apply x_block_normal | apply x_block_here | apply x_block_out rfl) | refine lAv rfl ?_ | refine l_no rfl ?_ | refine tT rfl rfl ?_ | refine tF rfl rfl ?_ | refine lT rfl rfl ?_ | refine lF rfl rfl ?_)
    refine l_opg rfl (o_pure rfl (by kernel_rfl) rfl (fun w1 hw1 => wakes33_calls w1 (ht.keep hw1))) fun _ => ?_
    (repeat first | with_reducible (first | apply t_seq | apply t_region | apply t_block | apply t_ret | apply t_skip | apply t_exit | apply l_nil | apply x_then | apply x_pass_exit | apply x_pass_ret | apply x_block_ret | apply x_block_normal | apply x_block_here | apply x_block_out rfl) | refine lAv rfl ?_ | refine l_no rfl ?_ | refine tT rfl rfl ?_ | refine tF rfl rfl ?_ | refine lT rfl rfl ?_ | refine lF rfl rfl ?_)
    exact x_pu rfl rfl rfl
  · rw [Bool.not_eq_true] at hG
    rw [hG]
    by_cases hB : 5000 < b.length
    · (repeat first | with_reducible (first | apply t_seq | apply t_region | apply t_block | apply t_ret | apply t_skip | apply t_exit | apply l_nil | apply x_then | apply x_pass_exit | apply x_pass_ret | apply x_block_ret | apply x_block_normal | apply x_block_here | apply x_block_out rfl) | refine lAv rfl ?_ | refine l_no rfl ?_ | refine tT rfl rfl ?_ | refine tF rfl rfl ?_ | refine lT rfl rfl ?_ | refine lF rfl rfl ?_)
      refine l_opg rfl (o_pure rfl (by kernel_rfl) rfl (fun w1 hw1 => wakes33_calls w1 (ht.keep hw1))) fun _ => ?_
      (repeat first | with_reducible (first | apply t_seq | apply t_region | apply t_block | apply t_ret | apply t_skip | apply t_exit | apply l_nil | apply x_then | apply x_pass_exit | apply x_pass_ret | apply x_block_ret | apply x_block_normal | apply x_block_here | apply x_block_out rfl) | refine lAv rfl ?_ | refine l_no rfl ?_ | refine tT rfl rfl ?_ | refine tF rfl rfl ?_ | refine lT rfl rfl ?_ | refine lF rfl rfl ?_)
      exact x_pu rfl rfl rfl
    · obtain ⟨hl60, hl400⟩ := great_not hG
      have hs : ChL w a c l := ⟨hA, by omega, fun x hx => by have := hl400 x hx; omega⟩
      have hch := chP_400 l hl400
      (repeat first | with_reducible (first | apply t_seq | apply t_region | apply t_block | apply t_ret | apply t_skip | apply t_exit | apply l_nil | apply x_then | apply x_pass_exit | apply x_pass_ret | apply x_block_ret | apply x_block_normal | apply x_block_here | apply x_block_out rfl) | refine lAv rfl ?_ | refine l_no rfl ?_ | refine tT rfl rfl ?_ | refine tF rfl rfl ?_ | refine lT rfl rfl ?_ | refine lF rfl rfl ?_)
      refine l_opg rfl (o_pure rfl (by kernel_rfl) rfl (fun w1 hw1 => tables_calls w1)) fun _ => ?_
      refine l_alloca rfl rfl fun b5 hb5 => ?_
      refine l_op rfl (o_storea (cs' := (u32V (shaK ++ shaH)).toArray) rfl rfl rfl (by rw [List.size_toArray, tab_size]; rfl) (u32_one _) (by rw [List.size_toArray, tab_size]; rfl)) fun _ => ?_
      (repeat first | with_reducible (first | apply t_seq | apply t_region | apply t_block | apply t_ret | apply t_skip | apply t_exit | apply l_nil | apply x_then | apply x_pass_exit | apply x_pass_ret | apply x_block_ret | apply x_block_normal | apply x_block_here | apply x_block_out rfl) | refine lAv rfl ?_ | refine l_no rfl ?_ | refine tT rfl rfl ?_ | refine tF rfl rfl ?_ | refine lT rfl rfl ?_ | refine lF rfl rfl ?_)
      refine l_w rfl (v_loada rfl (by rw [strm_size r hr]; rfl) (.tail _ (.head _))) ?_
      refine l_opg rfl (o_pure rfl (by kernel_rfl) rfl (fun w1 hw1 => lof_calls r a l.length c hr w1)) fun _ => ?_
      refine l_opg rfl (o_pure rfl (by kernel_rfl) rfl (fun w1 hw1 => sput_calls r l a c hr w1 (hs.keep hw1) (ht.keep hw1))) fun _ => ?_
      (repeat first | with_reducible (first | apply t_seq | apply t_region | apply t_block | apply t_ret | apply t_skip | apply t_exit | apply l_nil | apply x_then | apply x_pass_exit | apply x_pass_ret | apply x_block_ret | apply x_block_normal | apply x_block_here | apply x_block_out rfl) | refine lAv rfl ?_ | refine l_no rfl ?_ | refine tT rfl rfl ?_ | refine tF rfl rfl ?_ | refine lT rfl rfl ?_ | refine lF rfl rfl ?_)
      refine l_w rfl (v_loada rfl (by rw [strm_size r hr]; rfl) (.tail _ (.head _))) ?_
      (repeat first | with_reducible (first | apply t_seq | apply t_region | apply t_block | apply t_ret | apply t_skip | apply t_exit | apply l_nil | apply x_then | apply x_pass_exit | apply x_pass_ret | apply x_block_ret | apply x_block_normal | apply x_block_here | apply x_block_out rfl) | refine lAv rfl ?_ | refine l_no rfl ?_ | refine tT rfl rfl ?_ | refine tF rfl rfl ?_ | refine lT rfl rfl ?_ | refine lF rfl rfl ?_)
      refine l_opg rfl (o_pure rfl (by kernel_rfl) rfl (fun w1 hw1 => rmay33_calls r l a c hr w1 (hs.keep hw1))) fun _ => ?_
      refine l_w rfl (v_assign rfl) ?_
      refine l_nil (x_then ?_)
      refine t_seq ?_
      refine t_join (w0 := w) (F := none') (α := Unit) (fun _ => [(1, .string ⟨b.toArray⟩), (2, .pointer (some ⟨b2, 0, none⟩)), (5, .pointer (some ⟨b5, 0, none⟩))]) (fun _ => True)
        (fun _ => [pt b5 (.cells (u32V (shaK ++ shaH)).toArray 33 (0, 0)), pt b2 (.cells (strmA r a l.length c) 26 (0, 0))]) ?_ fun _ _ => ?_
      · (repeat first | with_reducible (first | apply t_seq | apply t_region | apply t_block | apply t_ret | apply t_skip | apply t_exit | apply l_nil | apply x_then | apply x_pass_exit | apply x_pass_ret | apply x_block_ret | apply x_block_normal | apply x_block_here | apply x_block_out rfl) | refine lAv rfl ?_ | refine l_no rfl ?_ | refine tT rfl rfl ?_ | refine tF rfl rfl ?_ | refine lT rfl rfl ?_ | refine lF rfl rfl ?_)
        refine l_w rfl (v_loada rfl (by rw [strm_size r hr]; rfl) (.tail _ (.head _))) ?_
        refine l_opg rfl (o_pure rfl (by kernel_rfl) rfl (fun w1 hw1 => lof_calls r a l.length c hr w1)) fun _ => ?_
        refine l_opg rfl (o_pure rfl (by kernel_rfl) rfl (fun w1 hw1 => smay_calls r l a c hr w1 (hs.keep hw1) (ht.keep hw1))) fun _ => ?_
        (repeat first | with_reducible (first | apply t_seq | apply t_region | apply t_block | apply t_ret | apply t_skip | apply t_exit | apply l_nil | apply x_then | apply x_pass_exit | apply x_pass_ret | apply x_block_ret | apply x_block_normal | apply x_block_here | apply x_block_out rfl) | refine lAv rfl ?_ | refine l_no rfl ?_ | refine tT rfl rfl ?_ | refine tF rfl rfl ?_ | refine lT rfl rfl ?_ | refine lF rfl rfl ?_)
        refine l_w rfl (v_neb rfl rfl rfl) ?_
        refine l_say 35 _ (.bool false) rfl (congrArg Value.bool (by simp)) ?_
        cases hm : mayF ⟨r, l⟩ with
        | true =>
          rw [if_pos rfl, if_pos rfl]
          (repeat first | with_reducible (first | apply t_seq | apply t_region | apply t_block | apply t_ret | apply t_skip | apply t_exit | apply l_nil | apply x_then | apply x_pass_exit | apply x_pass_ret | apply x_block_ret | apply x_block_normal | apply x_block_here | apply x_block_out rfl) | refine lAv rfl ?_ | refine l_no rfl ?_ | refine tT rfl rfl ?_ | refine tF rfl rfl ?_ | refine lT rfl rfl ?_ | refine lF rfl rfl ?_)
          refine l_w rfl (v_loada rfl (by rw [strm_size r hr]; rfl) (.tail _ (.head _))) ?_
          refine l_opg rfl (o_pure rfl (by kernel_rfl) rfl (fun w1 hw1 => rput33_calls r l a c hr (by omega) w1 (hs.keep hw1))) fun _ => ?_
          (repeat first | with_reducible (first | apply t_seq | apply t_region | apply t_block | apply t_ret | apply t_skip | apply t_exit | apply l_nil | apply x_then | apply x_pass_exit | apply x_pass_ret | apply x_block_ret | apply x_block_normal | apply x_block_here | apply x_block_out rfl) | refine lAv rfl ?_ | refine l_no rfl ?_ | refine tT rfl rfl ?_ | refine tF rfl rfl ?_ | refine lT rfl rfl ?_ | refine lF rfl rfl ?_)
          exact x_join () ⟨rfl, rfl, rfl, trivial⟩ trivial (fun w' hw' => hw')
        | false =>
          rw [if_neg (by decide), if_neg (by decide)]
          (repeat first | with_reducible (first | apply t_seq | apply t_region | apply t_block | apply t_ret | apply t_skip | apply t_exit | apply l_nil | apply x_then | apply x_pass_exit | apply x_pass_ret | apply x_block_ret | apply x_block_normal | apply x_block_here | apply x_block_out rfl) | refine lAv rfl ?_ | refine l_no rfl ?_ | refine tT rfl rfl ?_ | refine tF rfl rfl ?_ | refine lT rfl rfl ?_ | refine lF rfl rfl ?_)
          exact x_join () ⟨rfl, rfl, rfl, trivial⟩ trivial (fun w' hw' => hw')
      · obtain ⟨hroot, hcl, hcx⟩ := takeF_sizes b (by omega)
        (repeat first | with_reducible (first | apply t_seq | apply t_region | apply t_block | apply t_ret | apply t_skip | apply t_exit | apply l_nil | apply x_then | apply x_pass_exit | apply x_pass_ret | apply x_block_ret | apply x_block_normal | apply x_block_here | apply x_block_out rfl) | refine lAv rfl ?_ | refine l_no rfl ?_ | refine tT rfl rfl ?_ | refine tF rfl rfl ?_ | refine lT rfl rfl ?_ | refine lF rfl rfl ?_)
        refine l_ctg rfl rfl (by kernel_rfl) rfl (fun w1 hw1 => stake_calls b (by omega) w1 (ht.keep hw1)) fun x hx => ?_
        obtain ⟨o9, ho9⟩ : ∃ o, x = o := ⟨_, rfl⟩
        rw [ho9]
        generalize hE : (takeF b).2 = e
        generalize hS : (takeF b).1.getD noS = y at hroot hcl hcx ⊢
        obtain ⟨yr, yc⟩ := y
        simp only at hroot hcl hcx ⊢
        refine l_fact (fun w hw => (own_val (hw.item (own 9 1 o9 yc.length (strs (bas yc))) (by simp)).1)) fun ⟨hsl, hcap⟩ => ?_
        have hso : strmO yr o9 yc.length = strmA yr (slA o9) yc.length (slC o9) := by unfold strmO strmA; rw [hsl]
        rw [hso]
        (repeat first | with_reducible (first | apply t_seq | apply t_region | apply t_block | apply t_ret | apply t_skip | apply t_exit | apply l_nil | apply x_then | apply x_pass_exit | apply x_pass_ret | apply x_block_ret | apply x_block_normal | apply x_block_here | apply x_block_out rfl) | refine lAv rfl ?_ | refine l_no rfl ?_ | refine tT rfl rfl ?_ | refine tF rfl rfl ?_ | refine lT rfl rfl ?_ | refine lF rfl rfl ?_)
        refine l_alloca rfl rfl fun b9 hb9 => ?_
        refine l_op rfl (o_storea (cs' := strmA yr (slA o9) yc.length (slC o9)) rfl rfl rfl (by rw [strm_size _ hroot]; rfl) (strm_one _ _ _ _) (by rw [strm_size _ hroot]; rfl)) fun _ => ?_
        (repeat first | with_reducible (first | apply t_seq | apply t_region | apply t_block | apply t_ret | apply t_skip | apply t_exit | apply l_nil | apply x_then | apply x_pass_exit | apply x_pass_ret | apply x_block_ret | apply x_block_normal | apply x_block_here | apply x_block_out rfl) | refine lAv rfl ?_ | refine l_no rfl ?_ | refine tT rfl rfl ?_ | refine tF rfl rfl ?_ | refine lT rfl rfl ?_ | refine lF rfl rfl ?_)
        refine l_ctg rfl rfl (by kernel_rfl) rfl (fun w1 hw1 => rtake33_calls b (by omega) w1) fun x hx => ?_
        rw [hS]
        obtain ⟨o11, ho11⟩ : ∃ o, x = o := ⟨_, rfl⟩
        rw [ho11, hE]
        simp only
        refine l_fact (fun w hw => (own_val (hw.item (own 9 1 o11 yc.length (strs (bas yc))) (by simp)).1)) fun ⟨hsl2, hcap2⟩ => ?_
        have hso2 : strmO yr o11 yc.length = strmA yr (slA o11) yc.length (slC o11) := by unfold strmO strmA; rw [hsl2]
        rw [hso2]
        (repeat first | with_reducible (first | apply t_seq | apply t_region | apply t_block | apply t_ret | apply t_skip | apply t_exit | apply l_nil | apply x_then | apply x_pass_exit | apply x_pass_ret | apply x_block_ret | apply x_block_normal | apply x_block_here | apply x_block_out rfl) | refine lAv rfl ?_ | refine l_no rfl ?_ | refine tT rfl rfl ?_ | refine tF rfl rfl ?_ | refine lT rfl rfl ?_ | refine lF rfl rfl ?_)
        refine l_alloca rfl rfl fun b11 hb11 => ?_
        refine l_op rfl (o_storea (cs' := strmA yr (slA o11) yc.length (slC o11)) rfl rfl rfl (by rw [strm_size _ hroot]; rfl) (strm_one _ _ _ _) (by rw [strm_size _ hroot]; rfl)) fun _ => ?_
        (repeat first | with_reducible (first | apply t_seq | apply t_region | apply t_block | apply t_ret | apply t_skip | apply t_exit | apply l_nil | apply x_then | apply x_pass_exit | apply x_pass_ret | apply x_block_ret | apply x_block_normal | apply x_block_here | apply x_block_out rfl) | refine lAv rfl ?_ | refine l_no rfl ?_ | refine tT rfl rfl ?_ | refine tF rfl rfl ?_ | refine lT rfl rfl ?_ | refine lF rfl rfl ?_)
        refine t_drawp (by kernel_rfl) ?_
        (repeat first | refine dAv [] rfl rfl rfl ?_ | refine dno [] rfl rfl rfl ?_ | refine dT [] rfl rfl rfl rfl ?_ | refine dF [] rfl rfl rfl rfl ?_)
        refine d_v [] rfl rfl (by kernel_rfl) (fun _ h => by first | exact h | exact Hp.sub h (.cons _ (.refl _)) | exact Hp.sub h (.cons _ (.cons _ (.refl _))) | exact Hp.sub h (.cons _ (.cons _ (.cons _ (.refl _)))) | exact Hp.sub h (.cons _ (.cons _ (.cons _ (.cons _ (.refl _))))) | exact Hp.sub h (.cons _ (.cons _ (.cons _ (.cons _ (.cons _ (.refl _)))))) | exact Hp.sub h (.cons _ (.cons _ (.cons _ (.cons _ (.cons _ (.cons _ (.refl _)))))))) rfl rfl (v_loada rfl (by rw [strm_size _ hroot]; rfl) (.tail _ (.tail _ (.head _)))) ?_
        (repeat first | refine dAv [] rfl rfl rfl ?_ | refine dno [] rfl rfl rfl ?_ | refine dT [] rfl rfl rfl rfl ?_ | refine dF [] rfl rfl rfl rfl ?_)
        refine d_v [] rfl rfl (by kernel_rfl) (fun _ h => by first | exact h | exact Hp.sub h (.cons _ (.refl _)) | exact Hp.sub h (.cons _ (.cons _ (.refl _))) | exact Hp.sub h (.cons _ (.cons _ (.cons _ (.refl _)))) | exact Hp.sub h (.cons _ (.cons _ (.cons _ (.cons _ (.refl _))))) | exact Hp.sub h (.cons _ (.cons _ (.cons _ (.cons _ (.cons _ (.refl _)))))) | exact Hp.sub h (.cons _ (.cons _ (.cons _ (.cons _ (.cons _ (.cons _ (.refl _)))))))) rfl rfl (v_loada rfl (by rw [strm_size _ hroot]; rfl) (.head _)) ?_
        (repeat first | refine dAv [] rfl rfl rfl ?_ | refine dno [] rfl rfl rfl ?_ | refine dT [] rfl rfl rfl rfl ?_ | refine dF [] rfl rfl rfl rfl ?_)
        refine d_opg 6 ⟨by kernel_rfl, by decide⟩ rfl rfl (o_pure rfl (by kernel_rfl) rfl (fun w1 hw1 => lof_calls yr (slA o11) yc.length (slC o11) hroot w1)) (fun _ _ h => h) fun _ => ?_
        (repeat first | refine dAv [] rfl rfl rfl ?_ | refine dno [] rfl rfl rfl ?_ | refine dT [] rfl rfl rfl rfl ?_ | refine dF [] rfl rfl rfl rfl ?_)
        refine d_opg 7 ⟨by kernel_rfl, by decide⟩ rfl rfl (o_pure rfl (by kernel_rfl) rfl (fun w1 hw1 => same_calls yr yr yc yc (slA o9) (slA o11) (slC o9) (slC o11) hroot hroot w1 (own_ChL (hw1.item (own 9 1 o9 yc.length (strs (bas yc))) (by simp)).1 hcl hcx) (own_ChL (hw1.item (own 9 1 o11 yc.length (strs (bas yc))) (by simp)).1 hcl hcx))) (fun _ _ h => h) fun _ => ?_
        rw [decide_eq_true (⟨rfl, rfl⟩ : yr = yr ∧ yc = yc)]
        (repeat first | refine dAv [] rfl rfl rfl ?_ | refine dno [] rfl rfl rfl ?_ | refine dT [] rfl rfl rfl rfl ?_ | refine dF [] rfl rfl rfl rfl ?_)
        refine d_opg 10 ⟨by kernel_rfl, by decide⟩ rfl rfl (o_pure rfl (by kernel_rfl) rfl (fun w1 hw1 => wakes33_calls w1 (ht.keep hw1))) (fun _ _ h => h) fun _ => ?_
        (repeat first | refine dAv [] rfl rfl rfl ?_ | refine dno [] rfl rfl rfl ?_ | refine dT [] rfl rfl rfl rfl ?_ | refine dF [] rfl rfl rfl rfl ?_)
        refine d_end (by kernel_rfl) ?_
        (repeat first | with_reducible (first | apply t_seq | apply t_region | apply t_block | apply t_ret | apply t_skip | apply t_exit | apply l_nil | apply x_then | apply x_pass_exit | apply x_pass_ret | apply x_block_ret | apply x_block_normal | apply x_block_here | apply x_block_out rfl) | refine lAv rfl ?_ | refine l_no rfl ?_ | refine tT rfl rfl ?_ | refine tF rfl rfl ?_ | refine lT rfl rfl ?_ | refine lF rfl rfl ?_)
        exact x_pu rfl rfl rfl
end Go.Proofs.YtdkonngkbbgcgaaGreatDoor
