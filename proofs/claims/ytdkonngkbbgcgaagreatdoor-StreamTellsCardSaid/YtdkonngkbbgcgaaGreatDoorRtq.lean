/- The document's streams (armariumref33): the bytes of a stream, and the stream of bytes. -/
import Derived.Test.YtdkonngkbbgcgaaGreatDoorRtp
namespace Go.Proofs.YtdkonngkbbgcgaaGreatDoor
open Go.RowKit Go.Eng
set_option maxRecDepth 100000
set_option maxHeartbeats 40000000
theorem chP_snoc (l : List Bys) (x : Bys) : chP (l ++ [x]) = chP l ++ (beN 2 x.length ++ x) := by simp [chP]
theorem chP_take (l : List Bys) (i : Nat) : (chP (l.take i)).length ≤ (chP l).length := by
  have : chP l = chP (l.take i) ++ chP (l.drop i) := by rw [chP, chP, chP, ← List.flatMap_append, List.take_append_drop]
  rw [this, List.length_append]; omega
theorem rput33_calls (r : Bys) (l : List Bys) (a : Option Addr) (c : Nat) (hr : r.length = 32) (hz : (chP l).length ≤ 900000) (w : World) (hs : ChL w a c l) :
    Pu Tryz.prog 12 #[.agg (strmA r a l.length c)] w (.string ⟨(putF ⟨r, l⟩).toArray⟩) := by
  refine pu_of [_] Tryz.func12 rfl rfl ?_
  simp only [argSlots]
  have h32 := strm_32 r hr a l.length c
  have hm := hs.many
  have hn2 : (beN 2 l.length).length = 2 := beN_length 2 _
  (repeat first | with_reducible (first | apply t_seq | apply t_region | apply t_block | apply t_ret | apply t_skip | apply t_exit | apply l_nil | apply x_then | apply x_pass_exit | apply x_pass_ret | apply x_block_ret | apply x_block_normal | apply x_block_here | apply x_block_out rfl) | refine lAv rfl ?_ | refine l_no rfl ?_ | refine tT rfl rfl ?_ | refine tF rfl rfl ?_ | refine lT rfl rfl ?_ | refine lF rfl rfl ?_)
  refine l_boxa rfl rfl fun b1 hb1 => ?_
  (repeat first | with_reducible (first | apply t_seq | apply t_region | apply t_block | apply t_ret | apply t_skip | apply t_exit | apply l_nil | apply x_then | apply x_pass_exit | apply x_pass_ret | apply x_block_ret | apply x_block_normal | apply x_block_here | apply x_block_out rfl) | refine lAv rfl ?_ | refine l_no rfl ?_ | refine tT rfl rfl ?_ | refine tF rfl rfl ?_ | refine lT rfl rfl ?_ | refine lF rfl rfl ?_)
  refine t_drawp (by kernel_rfl) ?_
  (repeat first | refine dAv [1, 2, 3, 5, 9] rfl rfl rfl ?_ | refine dno [1, 2, 3, 5, 9] rfl rfl rfl ?_ | refine dT [1, 2, 3, 5, 9] rfl rfl rfl rfl ?_ | refine dF [1, 2, 3, 5, 9] rfl rfl rfl rfl ?_)
  refine d_v [2, 3, 5, 9] rfl rfl (by kernel_rfl) (fun _ h => by first | exact h | exact Hp.sub h (.cons _ (.refl _)) | exact Hp.sub h (.cons _ (.cons _ (.refl _))) | exact Hp.sub h (.cons _ (.cons _ (.cons _ (.refl _)))) | exact Hp.sub h (.cons _ (.cons _ (.cons _ (.cons _ (.refl _))))) | exact Hp.sub h (.cons _ (.cons _ (.cons _ (.cons _ (.cons _ (.refl _)))))) | exact Hp.sub h (.cons _ (.cons _ (.cons _ (.cons _ (.cons _ (.cons _ (.refl _)))))))) rfl rfl (v_slarr (n := 32) rfl rfl rfl rfl) ?_
  refine d_v [3, 5, 9] rfl rfl (by kernel_rfl) (fun _ h => by first | exact h | exact Hp.sub h (.cons _ (.refl _)) | exact Hp.sub h (.cons _ (.cons _ (.refl _))) | exact Hp.sub h (.cons _ (.cons _ (.cons _ (.refl _)))) | exact Hp.sub h (.cons _ (.cons _ (.cons _ (.cons _ (.refl _))))) | exact Hp.sub h (.cons _ (.cons _ (.cons _ (.cons _ (.cons _ (.refl _)))))) | exact Hp.sub h (.cons _ (.cons _ (.cons _ (.cons _ (.cons _ (.cons _ (.refl _)))))))) rfl rfl (v_bstr (bs := r) rfl hr.symm rfl rfl (fun w' hw' => .inr ⟨b1, 0, rfl, strm_root (hw'.get (.head _))⟩)) ?_
  refine d_v [5, 9] rfl rfl (by kernel_rfl) (fun _ h => by first | exact h | exact Hp.sub h (.cons _ (.refl _)) | exact Hp.sub h (.cons _ (.cons _ (.refl _))) | exact Hp.sub h (.cons _ (.cons _ (.cons _ (.refl _)))) | exact Hp.sub h (.cons _ (.cons _ (.cons _ (.cons _ (.refl _))))) | exact Hp.sub h (.cons _ (.cons _ (.cons _ (.cons _ (.cons _ (.refl _)))))) | exact Hp.sub h (.cons _ (.cons _ (.cons _ (.cons _ (.cons _ (.cons _ (.refl _)))))))) rfl rfl (v_addb (a := magicL) (b := r) rfl rfl (by rw [hr]; decide)) ?_
  refine d_v [9] rfl rfl (by kernel_rfl) (fun _ h => by first | exact h | exact Hp.sub h (.cons _ (.refl _)) | exact Hp.sub h (.cons _ (.cons _ (.refl _))) | exact Hp.sub h (.cons _ (.cons _ (.cons _ (.refl _)))) | exact Hp.sub h (.cons _ (.cons _ (.cons _ (.cons _ (.refl _))))) | exact Hp.sub h (.cons _ (.cons _ (.cons _ (.cons _ (.cons _ (.refl _)))))) | exact Hp.sub h (.cons _ (.cons _ (.cons _ (.cons _ (.cons _ (.cons _ (.refl _)))))))) rfl rfl (v_loadp rfl rfl (.head _) h32) ?_
  (repeat first | refine dAv [9] rfl rfl rfl ?_ | refine dno [9] rfl rfl rfl ?_ | refine dT [9] rfl rfl rfl rfl ?_ | refine dF [9] rfl rfl rfl rfl ?_)
  refine d_opg 8 ⟨by kernel_rfl, by decide⟩ rfl rfl (o_pure rfl (by kernel_rfl) rfl (fun w1 hw1 => num33_calls 2 l.length (by omega) (by omega) w1)) (fun _ _ h => h) fun _ => ?_
  refine d_v [] rfl rfl (by kernel_rfl) (fun _ h => by first | exact h | exact Hp.sub h (.cons _ (.refl _)) | exact Hp.sub h (.cons _ (.cons _ (.refl _))) | exact Hp.sub h (.cons _ (.cons _ (.cons _ (.refl _)))) | exact Hp.sub h (.cons _ (.cons _ (.cons _ (.cons _ (.refl _))))) | exact Hp.sub h (.cons _ (.cons _ (.cons _ (.cons _ (.cons _ (.refl _)))))) | exact Hp.sub h (.cons _ (.cons _ (.cons _ (.cons _ (.cons _ (.cons _ (.refl _)))))))) rfl rfl (v_addb (a := magicL ++ r) (b := beN 2 l.length) rfl rfl (by rw [List.length_append, hn2, hr]; decide)) ?_
  (repeat first | refine dAv [] rfl rfl rfl ?_ | refine dno [] rfl rfl rfl ?_ | refine dT [] rfl rfl rfl rfl ?_ | refine dF [] rfl rfl rfl rfl ?_)
  refine d_end (by kernel_rfl) ?_
  (repeat first | with_reducible (first | apply t_seq | apply t_region | apply t_block | apply t_ret | apply t_skip | apply t_exit | apply l_nil | apply x_then | apply x_pass_exit | apply x_pass_ret | apply x_block_ret | apply x_block_normal | apply x_block_here | apply x_block_out rfl) | refine lAv rfl ?_ | refine l_no rfl ?_ | refine tT rfl rfl ?_ | refine tF rfl rfl ?_ | refine lT rfl rfl ?_ | refine lF rfl rfl ?_)
  have hH : (magicL ++ r ++ beN 2 l.length).length = 38 := by rw [List.length_append, List.length_append, hn2, hr]; rfl
  have hbody : bodyF ⟨r, l⟩ = (magicL ++ r ++ beN 2 l.length) ++ chP l := rfl
  have hput : putF ⟨r, l⟩ = bodyF ⟨r, l⟩ ++ sumF (bodyF ⟨r, l⟩) := rfl
  rw [hput, hbody]
  generalize magicL ++ r ++ beN 2 l.length = H0 at hH ⊢
  refine t_for (α := Nat) (fun i => [(1, .pointer (some ⟨b1, 0, none⟩)), (3, .string ⟨(H0 ++ chP (l.take i)).toArray⟩), (4, .int .i64 i)]) (fun i => i ≤ l.length)
    (fun i => [pt b1 (.cells (strmA r a l.length c) 26 (0, 0))]) (fun i => l.length - i) 0 ⟨rfl, congrArg (fun b => some (Value.string b)) (ba_ext (by simp [chP])), rfl, trivial⟩ (Nat.zero_le _) (fun w' hw' => hw') fun i hi => ?_
  have htk := chP_take l i
  by_cases hi2 : i < l.length
  · obtain ⟨b, off, rfl, hat⟩ := hs.at_ (by omega)
    have hci := hat i hi2
    have hlo := hs.long l[i] (List.getElem_mem hi2)
    have hup : H0 ++ chP (l.take (i + 1)) = (H0 ++ chP (l.take i) ++ beN 2 l[i].length) ++ l[i] := by rw [List.take_succ_eq_append_getElem hi2, chP_snoc]; simp
    generalize l[i] = s at hci hlo hup
    have hsl := ba_len s
    have hn2 : (beN 2 s.length).length = 2 := beN_length 2 _
    generalize chP (l.take i) = T at htk hup ⊢
    (repeat first | with_reducible (first | apply t_seq | apply t_region | apply t_block | apply t_ret | apply t_skip | apply t_exit | apply l_nil | apply x_then | apply x_pass_exit | apply x_pass_ret | apply x_block_ret | apply x_block_normal | apply x_block_here | apply x_block_out rfl) | refine lAv rfl ?_ | refine l_no rfl ?_ | refine tT rfl rfl ?_ | refine tF rfl rfl ?_ | refine lT rfl rfl ?_ | refine lF rfl rfl ?_)
    refine l_w rfl (v_loadp rfl rfl (.head _) h32) ?_
    (repeat first | with_reducible (first | apply t_seq | apply t_region | apply t_block | apply t_ret | apply t_skip | apply t_exit | apply l_nil | apply x_then | apply x_pass_exit | apply x_pass_ret | apply x_block_ret | apply x_block_normal | apply x_block_here | apply x_block_out rfl) | refine lAv rfl ?_ | refine l_no rfl ?_ | refine tT rfl rfl ?_ | refine tF rfl rfl ?_ | refine lT rfl rfl ?_ | refine lF rfl rfl ?_)
    refine t_drawp (by kernel_rfl) ?_
    (repeat first | refine dAv [2, 5, 9, 11, 14, 15] rfl rfl rfl ?_ | refine dno [2, 5, 9, 11, 14, 15] rfl rfl rfl ?_ | refine dT [2, 5, 9, 11, 14, 15] rfl rfl rfl rfl ?_ | refine dF [2, 5, 9, 11, 14, 15] rfl rfl rfl rfl ?_)
    refine d_v [5, 9, 11, 14, 15] rfl rfl (by kernel_rfl) (fun _ h => by first | exact h | exact Hp.sub h (.cons _ (.refl _)) | exact Hp.sub h (.cons _ (.cons _ (.refl _))) | exact Hp.sub h (.cons _ (.cons _ (.cons _ (.refl _)))) | exact Hp.sub h (.cons _ (.cons _ (.cons _ (.cons _ (.refl _))))) | exact Hp.sub h (.cons _ (.cons _ (.cons _ (.cons _ (.cons _ (.refl _)))))) | exact Hp.sub h (.cons _ (.cons _ (.cons _ (.cons _ (.cons _ (.cons _ (.refl _)))))))) rfl rfl (v_loadp rfl rfl (.head _) h32) ?_
    (repeat first | refine dAv [5, 9, 11, 14, 15] rfl rfl rfl ?_ | refine dno [5, 9, 11, 14, 15] rfl rfl rfl ?_ | refine dT [5, 9, 11, 14, 15] rfl rfl rfl rfl ?_ | refine dF [5, 9, 11, 14, 15] rfl rfl rfl rfl ?_)
    refine d_v [9, 11, 14, 15] rfl rfl (by kernel_rfl) (fun _ h => by first | exact h | exact Hp.sub h (.cons _ (.refl _)) | exact Hp.sub h (.cons _ (.cons _ (.refl _))) | exact Hp.sub h (.cons _ (.cons _ (.cons _ (.refl _)))) | exact Hp.sub h (.cons _ (.cons _ (.cons _ (.cons _ (.refl _))))) | exact Hp.sub h (.cons _ (.cons _ (.cons _ (.cons _ (.cons _ (.refl _)))))) | exact Hp.sub h (.cons _ (.cons _ (.cons _ (.cons _ (.cons _ (.cons _ (.refl _)))))))) rfl rfl (v_load rfl rfl (fun w' hw' => hw'.old (fun h => h) hci)) ?_
    (repeat first | refine dAv [9, 11, 14, 15] rfl rfl rfl ?_ | refine dno [9, 11, 14, 15] rfl rfl rfl ?_ | refine dT [9, 11, 14, 15] rfl rfl rfl rfl ?_ | refine dF [9, 11, 14, 15] rfl rfl rfl rfl ?_)
    refine d_v [9, 14, 15] rfl rfl (by kernel_rfl) (fun _ h => by first | exact h | exact Hp.sub h (.cons _ (.refl _)) | exact Hp.sub h (.cons _ (.cons _ (.refl _))) | exact Hp.sub h (.cons _ (.cons _ (.cons _ (.refl _)))) | exact Hp.sub h (.cons _ (.cons _ (.cons _ (.cons _ (.refl _))))) | exact Hp.sub h (.cons _ (.cons _ (.cons _ (.cons _ (.cons _ (.refl _)))))) | exact Hp.sub h (.cons _ (.cons _ (.cons _ (.cons _ (.cons _ (.cons _ (.refl _)))))))) rfl rfl (v_loadp rfl rfl (.head _) h32) ?_
    (repeat first | refine dAv [9, 14, 15] rfl rfl rfl ?_ | refine dno [9, 14, 15] rfl rfl rfl ?_ | refine dT [9, 14, 15] rfl rfl rfl rfl ?_ | refine dF [9, 14, 15] rfl rfl rfl rfl ?_)
    refine d_v [9, 15] rfl rfl (by kernel_rfl) (fun _ h => by first | exact h | exact Hp.sub h (.cons _ (.refl _)) | exact Hp.sub h (.cons _ (.cons _ (.refl _))) | exact Hp.sub h (.cons _ (.cons _ (.cons _ (.refl _)))) | exact Hp.sub h (.cons _ (.cons _ (.cons _ (.cons _ (.refl _))))) | exact Hp.sub h (.cons _ (.cons _ (.cons _ (.cons _ (.cons _ (.refl _)))))) | exact Hp.sub h (.cons _ (.cons _ (.cons _ (.cons _ (.cons _ (.cons _ (.refl _)))))))) rfl rfl (v_load rfl rfl (fun w' hw' => hw'.old (fun h => h) hci)) ?_
    (repeat first | refine dAv [9, 15] rfl rfl rfl ?_ | refine dno [9, 15] rfl rfl rfl ?_ | refine dT [9, 15] rfl rfl rfl rfl ?_ | refine dF [9, 15] rfl rfl rfl rfl ?_)
    rw [hsl]
    refine d_opg 8 ⟨by kernel_rfl, by decide⟩ rfl rfl (o_pure rfl (by kernel_rfl) rfl (fun w1 hw1 => num33_calls 2 s.length (by omega) (by omega) w1)) (fun _ _ h => h) fun _ => ?_
    refine d_v [15] rfl rfl (by kernel_rfl) (fun _ h => by first | exact h | exact Hp.sub h (.cons _ (.refl _)) | exact Hp.sub h (.cons _ (.cons _ (.refl _))) | exact Hp.sub h (.cons _ (.cons _ (.cons _ (.refl _)))) | exact Hp.sub h (.cons _ (.cons _ (.cons _ (.cons _ (.refl _))))) | exact Hp.sub h (.cons _ (.cons _ (.cons _ (.cons _ (.cons _ (.refl _)))))) | exact Hp.sub h (.cons _ (.cons _ (.cons _ (.cons _ (.cons _ (.cons _ (.refl _)))))))) rfl rfl (v_addb (a := H0 ++ T) (b := beN 2 s.length) rfl rfl (by rw [List.length_append, hn2]; omega)) ?_
    refine d_v [] rfl rfl (by kernel_rfl) (fun _ h => by first | exact h | exact Hp.sub h (.cons _ (.refl _)) | exact Hp.sub h (.cons _ (.cons _ (.refl _))) | exact Hp.sub h (.cons _ (.cons _ (.cons _ (.refl _)))) | exact Hp.sub h (.cons _ (.cons _ (.cons _ (.cons _ (.refl _))))) | exact Hp.sub h (.cons _ (.cons _ (.cons _ (.cons _ (.cons _ (.refl _)))))) | exact Hp.sub h (.cons _ (.cons _ (.cons _ (.cons _ (.cons _ (.cons _ (.refl _)))))))) rfl rfl (v_addb (a := H0 ++ T ++ beN 2 s.length) (b := s) rfl rfl (by rw [List.length_append, List.length_append, hn2]; omega)) ?_
    (repeat first | refine dAv [] rfl rfl rfl ?_ | refine dno [] rfl rfl rfl ?_ | refine dT [] rfl rfl rfl rfl ?_ | refine dF [] rfl rfl rfl rfl ?_)
    refine d_end (by kernel_rfl) ?_
    (repeat first | with_reducible (first | apply t_seq | apply t_region | apply t_block | apply t_ret | apply t_skip | apply t_exit | apply l_nil | apply x_then | apply x_pass_exit | apply x_pass_ret | apply x_block_ret | apply x_block_normal | apply x_block_here | apply x_block_out rfl) | refine lAv rfl ?_ | refine l_no rfl ?_ | refine tT rfl rfl ?_ | refine tF rfl rfl ?_ | refine lT rfl rfl ?_ | refine lF rfl rfl ?_)
    exact x_round (i + 1) ⟨rfl, by rw [hup]; rfl, rfl, trivial⟩ hi2 (fun w' hw' => hw') (by omega)
  · obtain rfl : i = l.length := by omega
    rw [List.take_length] at htk ⊢
    obtain ⟨B, hB⟩ : ∃ B, H0 ++ chP l = B := ⟨_, rfl⟩
    have hBl : B.length ≤ 1000000 := by rw [← hB, List.length_append]; omega
    rw [hB]
    have hc32 := (crcF B).isLt
    have hsl4 : (beN 4 (crcF B).toNat).length = 4 := beN_length 4 _
    have hsum : sumF B = beN 4 (crcF B).toNat := rfl
    (repeat first | with_reducible (first | apply t_seq | apply t_region | apply t_block | apply t_ret | apply t_skip | apply t_exit | apply l_nil | apply x_then | apply x_pass_exit | apply x_pass_ret | apply x_block_ret | apply x_block_normal | apply x_block_here | apply x_block_out rfl) | refine lAv rfl ?_ | refine l_no rfl ?_ | refine tT rfl rfl ?_ | refine tF rfl rfl ?_ | refine lT rfl rfl ?_ | refine lF rfl rfl ?_)
    refine l_w rfl (v_loadp rfl rfl (.head _) h32) ?_
    (repeat first | with_reducible (first | apply t_seq | apply t_region | apply t_block | apply t_ret | apply t_skip | apply t_exit | apply l_nil | apply x_then | apply x_pass_exit | apply x_pass_ret | apply x_block_ret | apply x_block_normal | apply x_block_here | apply x_block_out rfl) | refine lAv rfl ?_ | refine l_no rfl ?_ | refine tT rfl rfl ?_ | refine tF rfl rfl ?_ | refine lT rfl rfl ?_ | refine lF rfl rfl ?_)
    refine l_opg rfl (o_pure rfl (by kernel_rfl) rfl (fun w1 hw1 => rcrc_calls B hBl w1)) fun _ => ?_
    (repeat first | with_reducible (first | apply t_seq | apply t_region | apply t_block | apply t_ret | apply t_skip | apply t_exit | apply l_nil | apply x_then | apply x_pass_exit | apply x_pass_ret | apply x_block_ret | apply x_block_normal | apply x_block_here | apply x_block_out rfl) | refine lAv rfl ?_ | refine l_no rfl ?_ | refine tT rfl rfl ?_ | refine tF rfl rfl ?_ | refine lT rfl rfl ?_ | refine lF rfl rfl ?_)
    refine l_opg rfl (o_pure rfl (by kernel_rfl) rfl (fun w1 hw1 => num33_calls 4 (crcF B).toNat (by omega) (by omega) w1)) fun _ => ?_
    refine l_w rfl (v_addb (a := B) (b := beN 4 (crcF B).toNat) rfl rfl (by rw [hsl4]; omega)) ?_
    (repeat first | with_reducible (first | apply t_seq | apply t_region | apply t_block | apply t_ret | apply t_skip | apply t_exit | apply l_nil | apply x_then | apply x_pass_exit | apply x_pass_ret | apply x_block_ret | apply x_block_normal | apply x_block_here | apply x_block_out rfl) | refine lAv rfl ?_ | refine l_no rfl ?_ | refine tT rfl rfl ?_ | refine tF rfl rfl ?_ | refine lT rfl rfl ?_ | refine lF rfl rfl ?_)
    rw [hsum]
    exact x_pu rfl rfl rfl
end Go.Proofs.YtdkonngkbbgcgaaGreatDoor
