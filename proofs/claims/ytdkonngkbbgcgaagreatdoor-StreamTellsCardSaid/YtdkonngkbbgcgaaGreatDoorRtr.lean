/- The document's streams (armariumref33): the stream of bytes. -/
import Derived.Test.YtdkonngkbbgcgaaGreatDoorRtq
import Derived.Test.YtdkonngkbbgcgaaGreatDoorLwb
namespace Go.Proofs.YtdkonngkbbgcgaaGreatDoor
open Go.RowKit Go.Eng
set_option maxRecDepth 100000
set_option maxHeartbeats 40000000
structure TQ where
  i : Nat
  st : Opn
  cs : List Bys
  o : Option (Nat × Nat)
theorem strm_copy (s : Bys) (h : s.length = 32) (v : Value) : put (bytesV (List.replicate 32 0) ++ [v]) 0 (bytesV s) = bytesV s ++ [v] := by
  unfold put
  rw [bytesV_length, h]
  rfl
theorem chF_bad (m : Nat) (r : Bys) : chF m (r, true) = ([], (r, true)) := by
  cases m with
  | zero => rfl
  | succ m => rw [chF, if_pos rfl]
theorem rtake33_calls (bs : Bys) (hz : bs.length ≤ 60000) (w : World) :
    Ct Tryz.prog 14 #[tabVal, .string ⟨bs.toArray⟩] w none' (fun o : Option (Nat × Nat) => .tuple #[.agg (strmO ((takeF bs).1.getD noS).root o ((takeF bs).1.getD noS).chunks.length), .int .i64 ((takeF bs).2 : Nat)]) (fun _ => True)
      (fun o => [own 9 1 o ((takeF bs).1.getD noS).chunks.length (strs (bas ((takeF bs).1.getD noS).chunks))]) := by
  refine ct_of [_, _] Tryz.func14 rfl rfl ?_
  simp only [argSlots, Nat.reduceAdd]
  have hsz := ba_len bs
  obtain ⟨n, hn⟩ : ∃ n, bs.length = n := ⟨_, rfl⟩
  rw [hn] at hsz hz
  (repeat first | with_reducible (first | apply t_seq | apply t_region | apply t_block | apply t_ret | apply t_skip | apply t_exit | apply l_nil | apply x_then | apply x_pass_exit | apply x_pass_ret | apply x_block_ret | apply x_block_normal | apply x_block_here | apply x_block_out rfl) | refine lAv rfl ?_ | refine l_no rfl ?_ | refine tT rfl rfl ?_ | refine tF rfl rfl ?_ | refine lT rfl rfl ?_ | refine lF rfl rfl ?_)
  refine l_boxa rfl rfl fun b2 hb2 => ?_
  (repeat first | with_reducible (first | apply t_seq | apply t_region | apply t_block | apply t_ret | apply t_skip | apply t_exit | apply l_nil | apply x_then | apply x_pass_exit | apply x_pass_ret | apply x_block_ret | apply x_block_normal | apply x_block_here | apply x_block_out rfl) | refine lAv rfl ?_ | refine l_no rfl ?_ | refine tT rfl rfl ?_ | refine tF rfl rfl ?_ | refine lT rfl rfl ?_ | refine lF rfl rfl ?_)
  refine l_alloca rfl rfl fun b4 hb4 => ?_
  (repeat first | with_reducible (first | apply t_seq | apply t_region | apply t_block | apply t_ret | apply t_skip | apply t_exit | apply l_nil | apply x_then | apply x_pass_exit | apply x_pass_ret | apply x_block_ret | apply x_block_normal | apply x_block_here | apply x_block_out rfl) | refine lAv rfl ?_ | refine l_no rfl ?_ | refine tT rfl rfl ?_ | refine tF rfl rfl ?_ | refine lT rfl rfl ?_ | refine lF rfl rfl ?_)
  by_cases h42 : n < 42
  · have hT : takeF bs = (none, 3) := by unfold takeF; rw [if_pos (by omega)]
    rw [hT]
    simp only [Option.getD_none]
    (repeat first | with_reducible (first | apply t_seq | apply t_region | apply t_block | apply t_ret | apply t_skip | apply t_exit | apply l_nil | apply x_then | apply x_pass_exit | apply x_pass_ret | apply x_block_ret | apply x_block_normal | apply x_block_here | apply x_block_out rfl) | refine lAv rfl ?_ | refine l_no rfl ?_ | refine tT rfl rfl ?_ | refine tF rfl rfl ?_ | refine lT rfl rfl ?_ | refine lF rfl rfl ?_)
    refine l_op rfl (o_storea rfl rfl rfl rfl rfl rfl) fun _ => ?_
    (repeat first | with_reducible (first | apply t_seq | apply t_region | apply t_block | apply t_ret | apply t_skip | apply t_exit | apply l_nil | apply x_then | apply x_pass_exit | apply x_pass_ret | apply x_block_ret | apply x_block_normal | apply x_block_here | apply x_block_out rfl) | refine lAv rfl ?_ | refine l_no rfl ?_ | refine tT rfl rfl ?_ | refine tF rfl rfl ?_ | refine lT rfl rfl ?_ | refine lF rfl rfl ?_)
    refine x_imp (fun w hw => hp_nil1 9 1 hw) ?_
    exact x_ct2 none rfl ⟨_, rfl, loada_run rfl (.tail _ (.head _))⟩ rfl rfl trivial (.cons_cons _ (List.nil_sublist _)) (by simp [own_stable])
  · have hex : (⟨bs.toArray⟩ : ByteArray).extract 0 ((⟨bs.toArray⟩ : ByteArray).size - 4) = ⟨(bs.take (n - 4)).toArray⟩ := by rw [hsz]; exact ext_take bs (n - 4) (by omega)
    have hdr : (⟨bs.toArray⟩ : ByteArray).extract ((⟨bs.toArray⟩ : ByteArray).size - 4) (⟨bs.toArray⟩ : ByteArray).size = ⟨(bs.drop (n - 4)).toArray⟩ := by
      have := ext_drop bs (n - 4)
      rw [hsz] at this ⊢
      exact this
    have hsk : sumOk bs = decide (beN 4 (crcF (bs.take (n - 4))).toNat = bs.drop (n - 4)) := by unfold sumOk sumF; rw [hn]
    have hBl : (bs.take (n - 4)).length = n - 4 := by rw [List.length_take]; omega
    have hT0 : takeF bs = if sumOk bs = false then (none, 12) else if (parF (bs.take (n - 4))).2.2 = false ∧ mayF (parF (bs.take (n - 4))).1 = true ∧ putF (parF (bs.take (n - 4))).1 = bs then (some (parF (bs.take (n - 4))).1, 0) else (none, 3) := by
      unfold takeF
      rw [hn, if_neg (by omega)]
    generalize hB : bs.take (n - 4) = B at hex hsk hBl hT0
    generalize hD : bs.drop (n - 4) = D at hdr hsk
    have hc32 := (crcF B).isLt
    have hBz := ba_len B
    (repeat first | with_reducible (first | apply t_seq | apply t_region | apply t_block | apply t_ret | apply t_skip | apply t_exit | apply l_nil | apply x_then | apply x_pass_exit | apply x_pass_ret | apply x_block_ret | apply x_block_normal | apply x_block_here | apply x_block_out rfl) | refine lAv rfl ?_ | refine l_no rfl ?_ | refine tT rfl rfl ?_ | refine tF rfl rfl ?_ | refine lT rfl rfl ?_ | refine lF rfl rfl ?_)
    rw [hex]
    (repeat first | with_reducible (first | apply t_seq | apply t_region | apply t_block | apply t_ret | apply t_skip | apply t_exit | apply l_nil | apply x_then | apply x_pass_exit | apply x_pass_ret | apply x_block_ret | apply x_block_normal | apply x_block_here | apply x_block_out rfl) | refine lAv rfl ?_ | refine l_no rfl ?_ | refine tT rfl rfl ?_ | refine tF rfl rfl ?_ | refine lT rfl rfl ?_ | refine lF rfl rfl ?_)
    refine t_drawp (by kernel_rfl) ?_
    (repeat first | refine dAv [] rfl rfl rfl ?_ | refine dno [] rfl rfl rfl ?_ | refine dT [] rfl rfl rfl rfl ?_ | refine dF [] rfl rfl rfl rfl ?_)
    refine d_opg 1 ⟨by kernel_rfl, by decide⟩ rfl rfl (o_pure rfl (by kernel_rfl) rfl (fun w1 hw1 => rcrc_calls B (by omega) w1)) (fun _ _ h => h) fun _ => ?_
    (repeat first | refine dAv [] rfl rfl rfl ?_ | refine dno [] rfl rfl rfl ?_ | refine dT [] rfl rfl rfl rfl ?_ | refine dF [] rfl rfl rfl rfl ?_)
    refine d_opg 3 ⟨by kernel_rfl, by decide⟩ rfl rfl (o_pure rfl (by kernel_rfl) rfl (fun w1 hw1 => num33_calls 4 (crcF B).toNat (by omega) (by omega) w1)) (fun _ _ h => h) fun _ => ?_
    (repeat first | refine dAv [] rfl rfl rfl ?_ | refine dno [] rfl rfl rfl ?_ | refine dT [] rfl rfl rfl rfl ?_ | refine dF [] rfl rfl rfl rfl ?_)
    refine d_end (by kernel_rfl) ?_
    rw [hdr]
    by_cases hs : beN 4 (crcF B).toNat = D
    · rw [hsk, decide_eq_true hs, if_neg (by decide)] at hT0
      have hse : (⟨(beN 4 (crcF B).toNat).toArray⟩ : ByteArray) = ⟨D.toArray⟩ := by rw [hs]
      have hq0 : parF B = (⟨(B.drop 4).take 32, (chF (beV ((B.drop 36).take 2)) (B.drop 38, false)).1⟩, (chF (beV ((B.drop 36).take 2)) (B.drop 38, false)).2) := rfl
      have hr32 : ((B.drop 4).take 32).length = 32 := by rw [List.length_take, List.length_drop]; omega
      have hk2 : ((B.drop 36).take 2).length = 2 := by rw [List.length_take, List.length_drop]; omega
      have hkl := beV_lt ((B.drop 36).take 2)
      rw [hk2] at hkl
      have hcb := chF_bound (beV ((B.drop 36).take 2)) (B.drop 38, false)
      simp only [Bool.false_eq_true, if_false, List.length_drop] at hcb
      have e1 := ext_mid B 4 36 (by omega)
      have e2 := ext_mid B 36 38 (by omega)
      have e3 := ext_drop B 38
      rw [List.drop_take] at e1 e2
      (repeat first | with_reducible (first | apply t_seq | apply t_region | apply t_block | apply t_ret | apply t_skip | apply t_exit | apply l_nil | apply x_then | apply x_pass_exit | apply x_pass_ret | apply x_block_ret | apply x_block_normal | apply x_block_here | apply x_block_out rfl) | refine lAv rfl ?_ | refine l_no rfl ?_ | refine tT rfl rfl ?_ | refine tF rfl rfl ?_ | refine lT rfl rfl ?_ | refine lF rfl rfl ?_)
      refine l_alloca rfl rfl fun b7 hb7 => ?_
      (repeat first | with_reducible (first | apply t_seq | apply t_region | apply t_block | apply t_ret | apply t_skip | apply t_exit | apply l_nil | apply x_then | apply x_pass_exit | apply x_pass_ret | apply x_block_ret | apply x_block_normal | apply x_block_here | apply x_block_out rfl) | refine lAv rfl ?_ | refine l_no rfl ?_ | refine tT rfl rfl ?_ | refine tF rfl rfl ?_ | refine lT rfl rfl ?_ | refine lF rfl rfl ?_)
      refine t_drawm [] 5 rfl rfl (by kernel_rfl) ?_
      (repeat first | refine dAv [1] rfl rfl rfl ?_ | refine dno [1] rfl rfl rfl ?_ | refine dT [1] rfl rfl rfl rfl ?_ | refine dF [1] rfl rfl rfl rfl ?_)
      refine d_v [] rfl rfl (by kernel_rfl) (fun _ h => by first | exact h | exact Hp.sub h (.cons _ (.refl _)) | exact Hp.sub h (.cons _ (.cons _ (.refl _))) | exact Hp.sub h (.cons _ (.cons _ (.cons _ (.refl _)))) | exact Hp.sub h (.cons _ (.cons _ (.cons _ (.cons _ (.refl _))))) | exact Hp.sub h (.cons _ (.cons _ (.cons _ (.cons _ (.cons _ (.refl _)))))) | exact Hp.sub h (.cons _ (.cons _ (.cons _ (.cons _ (.cons _ (.cons _ (.refl _)))))))) rfl rfl (v_slarr (n := 32) rfl rfl rfl rfl) ?_
      (repeat first | refine dAv [] rfl rfl rfl ?_ | refine dno [] rfl rfl rfl ?_ | refine dT [] rfl rfl rfl rfl ?_ | refine dF [] rfl rfl rfl rfl ?_)
      rw [e1]
      refine d_opg 4 ⟨by kernel_rfl, by decide⟩ rfl rfl (o_copys (cur := bytesV (List.replicate 32 0) ++ [.slice none 0 0]) (s := (B.drop 4).take 32) rfl rfl rfl rfl rfl (by omega) (by rw [List.length_append, bytesV_length, hr32]; decide)) (fun _ _ h => by first | exact h | exact Hp.sub h (.cons _ (.refl _)) | exact Hp.sub h (.cons _ (.cons _ (.refl _))) | exact Hp.sub h (.cons _ (.cons _ (.cons _ (.refl _)))) | exact Hp.sub h (.cons _ (.cons _ (.cons _ (.cons _ (.refl _))))) | exact Hp.sub h (.cons _ (.cons _ (.cons _ (.cons _ (.cons _ (.refl _)))))) | exact Hp.sub h (.cons _ (.cons _ (.cons _ (.cons _ (.cons _ (.cons _ (.refl _)))))))) fun _ => ?_
      rw [strm_copy _ hr32]
      (repeat first | refine dAv [] rfl rfl rfl ?_ | refine dno [] rfl rfl rfl ?_ | refine dT [] rfl rfl rfl rfl ?_ | refine dF [] rfl rfl rfl rfl ?_)
      refine d_end (by kernel_rfl) ?_
      generalize hR : (B.drop 4).take 32 = R at hq0 hr32 ⊢
      (repeat first | with_reducible (first | apply t_seq | apply t_region | apply t_block | apply t_ret | apply t_skip | apply t_exit | apply l_nil | apply x_then | apply x_pass_exit | apply x_pass_ret | apply x_block_ret | apply x_block_normal | apply x_block_here | apply x_block_out rfl) | refine lAv rfl ?_ | refine l_no rfl ?_ | refine tT rfl rfl ?_ | refine tF rfl rfl ?_ | refine lT rfl rfl ?_ | refine lF rfl rfl ?_)
      rw [e2]
      refine l_opg rfl (o_pure rfl (by kernel_rfl) rfl (fun w1 hw1 => value_calls ((B.drop 36).take 2) (by omega) w1)) fun _ => ?_
      generalize (B.drop 36).take 2 = K2 at hq0 hk2 hkl hcb ⊢
      generalize beV K2 = k at hq0 hkl hcb ⊢
      (repeat first | with_reducible (first | apply t_seq | apply t_region | apply t_block | apply t_ret | apply t_skip | apply t_exit | apply l_nil | apply x_then | apply x_pass_exit | apply x_pass_ret | apply x_block_ret | apply x_block_normal | apply x_block_here | apply x_block_out rfl) | refine lAv rfl ?_ | refine l_no rfl ?_ | refine tT rfl rfl ?_ | refine tF rfl rfl ?_ | refine lT rfl rfl ?_ | refine lF rfl rfl ?_)
      rw [e3]
      generalize hB38 : B.drop 38 = B38 at hq0 hcb ⊢
      refine l_say 46 _ (opA (B38, false)) rfl rfl ?_
      refine l_alloca rfl rfl fun b9 hb9 => ?_
      refine l_op rfl (o_storea rfl rfl rfl rfl rfl rfl) fun _ => ?_
      (repeat first | with_reducible (first | apply t_seq | apply t_region | apply t_block | apply t_ret | apply t_skip | apply t_exit | apply l_nil | apply x_then | apply x_pass_exit | apply x_pass_ret | apply x_block_ret | apply x_block_normal | apply x_block_here | apply x_block_out rfl) | refine lAv rfl ?_ | refine l_no rfl ?_ | refine tT rfl rfl ?_ | refine tF rfl rfl ?_ | refine lT rfl rfl ?_ | refine lF rfl rfl ?_)
      have h38 : B38.length ≤ 60000 := by rw [← hB38, List.length_drop]; omega
      refine t_imp (m' := [own 9 1 none 0 (strs (bas [])), opP b9 (B38, false), pt b7 (.cells (strmO R none 0) 26 (0, 0)), pt b4 (.cells (strmO (List.replicate 32 0) none 0) 26 (0, 0)), pt b2 (.cells (u32V (shaK ++ shaH)).toArray 33 (0, 0))]) (fun w' hw' => hp_nil1 _ _ hw') ?_
      refine t_joinB (w0 := w) (F := none') (α := TQ) (fun y => [(1, .string ⟨bs.toArray⟩), (2, .pointer (some ⟨b2, 0, none⟩)), (4, .pointer (some ⟨b4, 0, none⟩)), (7, .pointer (some ⟨b7, 0, none⟩)), (9, .pointer (some ⟨b9, 0, none⟩))]) (fun y => (chF k (B38, false)).1 = y.cs ∧ (chF k (B38, false)).2 = y.st ∧ y.cs.length ≤ 65535 ∧ ∀ x ∈ y.cs, x.length ≤ 65535)
        (fun y => [opP b9 y.st, pt b7 (.cells (strmO R y.o y.cs.length) 26 (0, 0)), own 9 1 y.o y.cs.length (strs (bas y.cs)), pt b4 (.cells (strmO (List.replicate 32 0) none 0) 26 (0, 0)), pt b2 (.cells (u32V (shaK ++ shaH)).toArray 33 (0, 0))]) ?_ fun ⟨i, st, cs, o⟩ ⟨g1, g2, g3, g4⟩ => ?_
      · refine t_for (α := TQ) (fun y => [(1, .string ⟨bs.toArray⟩), (2, .pointer (some ⟨b2, 0, none⟩)), (4, .pointer (some ⟨b4, 0, none⟩)), (7, .pointer (some ⟨b7, 0, none⟩)), (8, .int .i64 k), (9, .pointer (some ⟨b9, 0, none⟩)), (10, .int .i64 y.i)])
          (fun y => y.i ≤ k ∧ y.cs.length = y.i ∧ y.st.1.length ≤ 60000 ∧ (∀ x ∈ y.cs, x.length ≤ 65535) ∧ chF k (B38, false) = (y.cs ++ (chF (k - y.i) y.st).1, (chF (k - y.i) y.st).2))
          (fun y => [opP b9 y.st, pt b7 (.cells (strmO R y.o y.cs.length) 26 (0, 0)), own 9 1 y.o y.cs.length (strs (bas y.cs)), pt b4 (.cells (strmO (List.replicate 32 0) none 0) 26 (0, 0)), pt b2 (.cells (u32V (shaK ++ shaH)).toArray 33 (0, 0))]) (fun y => k - y.i) ⟨0, (B38, false), [], none⟩ ⟨rfl, rfl, rfl, rfl, rfl, rfl, rfl, trivial⟩ ⟨Nat.zero_le _, rfl, h38, (fun _ h => nomatch h), rfl⟩ (fun w' hw' => hw'.pick [1, 2, 0, 3, 4] rfl rfl) fun ⟨i, ⟨sr, sb⟩, cs, o⟩ ⟨g1, g2, g3, g4, g5⟩ => ?_
        simp only at g1 g2 g3 g4 g5 ⊢
        by_cases hik : i < k
        · cases sb with
          | true =>
            rw [chF_bad] at g5
            (repeat first | with_reducible (first | apply t_seq | apply t_region | apply t_block | apply t_ret | apply t_skip | apply t_exit | apply l_nil | apply x_then | apply x_pass_exit | apply x_pass_ret | apply x_block_ret | apply x_block_normal | apply x_block_here | apply x_block_out rfl) | refine lAv rfl ?_ | refine l_no rfl ?_ | refine tT rfl rfl ?_ | refine tF rfl rfl ?_ | refine lT rfl rfl ?_ | refine lF rfl rfl ?_)
            exact x_join ⟨i, (sr, true), cs, o⟩ ⟨rfl, rfl, rfl, rfl, rfl, trivial⟩ ⟨by rw [g5]; simp, by rw [g5], by simp only; omega, g4⟩ (fun w' hw' => hw')
          | false =>
            obtain ⟨m, hm⟩ : ∃ m, k - i = m + 1 := ⟨k - i - 1, by omega⟩
            have hm2 : k - (i + 1) = m := by omega
            obtain ⟨v, s1, hv⟩ : ∃ v s, opN 2 (sr, false) = (v, s) := ⟨_, _, rfl⟩
            obtain ⟨x0, s2, hx0⟩ : ∃ x s, opT v s1 = (x, s) := ⟨_, _, rfl⟩
            have hv2 : v < 65536 := by have := opN_lt 2 (sr, false); rw [hv] at this; exact this
            have hs1 : s1.1.length ≤ 60000 := by have := opT_rest 2 (sr, false); have e : (opT 2 (sr, false)).2 = s1 := congrArg Prod.snd hv; rw [e] at this; exact Nat.le_trans this g3
            have hs2 : s2.1.length ≤ 60000 := by have := opT_rest v s1; rw [hx0] at this; exact Nat.le_trans this hs1
            have hxl : x0.length ≤ 65535 := by have := opT_len v s1; rw [hx0] at this; simp only at this; omega
            rw [hm, chF, if_neg (fun h => by cases h)] at g5
            rw [hv] at g5
            simp only at g5
            rw [hx0] at g5
            simp only at g5
            have happ : strs (bas cs) ++ [Value.string ⟨x0.toArray⟩] = strs (bas (cs ++ [x0])) := by simp [strs, bas]
            have hal : cs.length + 1 = (cs ++ [x0]).length := by simp
            have hO := strmO_32 R hr32 o cs.length
            (repeat first | with_reducible (first | apply t_seq | apply t_region | apply t_block | apply t_ret | apply t_skip | apply t_exit | apply l_nil | apply x_then | apply x_pass_exit | apply x_pass_ret | apply x_block_ret | apply x_block_normal | apply x_block_here | apply x_block_out rfl) | refine lAv rfl ?_ | refine l_no rfl ?_ | refine tT rfl rfl ?_ | refine tF rfl rfl ?_ | refine lT rfl rfl ?_ | refine lF rfl rfl ?_)
            refine l_opg rfl (o_pure rfl (by kernel_rfl) rfl (fun w1 hw1 => rtake_calls (sr, false) 2 (.inr (.inl rfl)) w1)) fun _ => ?_
            rw [hv]
            simp only
            (repeat first | with_reducible (first | apply t_seq | apply t_region | apply t_block | apply t_ret | apply t_skip | apply t_exit | apply l_nil | apply x_then | apply x_pass_exit | apply x_pass_ret | apply x_block_ret | apply x_block_normal | apply x_block_here | apply x_block_out rfl) | refine lAv rfl ?_ | refine l_no rfl ?_ | refine tT rfl rfl ?_ | refine tF rfl rfl ?_ | refine lT rfl rfl ?_ | refine lF rfl rfl ?_)
            refine l_alloca rfl rfl fun b12 hb12 => ?_
            (repeat first | with_reducible (first | apply t_seq | apply t_region | apply t_block | apply t_ret | apply t_skip | apply t_exit | apply l_nil | apply x_then | apply x_pass_exit | apply x_pass_ret | apply x_block_ret | apply x_block_normal | apply x_block_here | apply x_block_out rfl) | refine lAv rfl ?_ | refine l_no rfl ?_ | refine tT rfl rfl ?_ | refine tF rfl rfl ?_ | refine lT rfl rfl ?_ | refine lF rfl rfl ?_)
            refine l_op rfl (o_storea (cs' := #[.string ⟨s1.1.toArray⟩, .bool s1.2]) rfl rfl rfl rfl rfl rfl) fun _ => ?_
            (repeat first | with_reducible (first | apply t_seq | apply t_region | apply t_block | apply t_ret | apply t_skip | apply t_exit | apply l_nil | apply x_then | apply x_pass_exit | apply x_pass_ret | apply x_block_ret | apply x_block_normal | apply x_block_here | apply x_block_out rfl) | refine lAv rfl ?_ | refine l_no rfl ?_ | refine tT rfl rfl ?_ | refine tF rfl rfl ?_ | refine lT rfl rfl ?_ | refine lF rfl rfl ?_)
            refine l_opg rfl (o_pure rfl (by kernel_rfl) rfl (fun w1 hw1 => rtext_calls s1 v (by omega) w1)) fun _ => ?_
            rw [hx0]
            simp only
            (repeat first | with_reducible (first | apply t_seq | apply t_region | apply t_block | apply t_ret | apply t_skip | apply t_exit | apply l_nil | apply x_then | apply x_pass_exit | apply x_pass_ret | apply x_block_ret | apply x_block_normal | apply x_block_here | apply x_block_out rfl) | refine lAv rfl ?_ | refine l_no rfl ?_ | refine tT rfl rfl ?_ | refine tF rfl rfl ?_ | refine lT rfl rfl ?_ | refine lF rfl rfl ?_)
            refine l_alloca rfl rfl fun b14 hb14 => ?_
            (repeat first | with_reducible (first | apply t_seq | apply t_region | apply t_block | apply t_ret | apply t_skip | apply t_exit | apply l_nil | apply x_then | apply x_pass_exit | apply x_pass_ret | apply x_block_ret | apply x_block_normal | apply x_block_here | apply x_block_out rfl) | refine lAv rfl ?_ | refine l_no rfl ?_ | refine tT rfl rfl ?_ | refine tF rfl rfl ?_ | refine lT rfl rfl ?_ | refine lF rfl rfl ?_)
            refine l_op rfl (o_storea (cs' := #[.string ⟨s2.1.toArray⟩, .bool s2.2]) rfl rfl rfl rfl rfl rfl) fun _ => ?_
            (repeat first | with_reducible (first | apply t_seq | apply t_region | apply t_block | apply t_ret | apply t_skip | apply t_exit | apply l_nil | apply x_then | apply x_pass_exit | apply x_pass_ret | apply x_block_ret | apply x_block_normal | apply x_block_here | apply x_block_out rfl) | refine lAv rfl ?_ | refine l_no rfl ?_ | refine tT rfl rfl ?_ | refine tF rfl rfl ?_ | refine lT rfl rfl ?_ | refine lF rfl rfl ?_)
            refine l_w rfl (v_loadp rfl rfl (.tail _ (.tail _ (.tail _ (.head _)))) hO) ?_
            (repeat first | with_reducible (first | apply t_seq | apply t_region | apply t_block | apply t_ret | apply t_skip | apply t_exit | apply l_nil | apply x_then | apply x_pass_exit | apply x_pass_ret | apply x_block_ret | apply x_block_normal | apply x_block_here | apply x_block_out rfl) | refine lAv rfl ?_ | refine l_no rfl ?_ | refine tT rfl rfl ?_ | refine tF rfl rfl ?_ | refine lT rfl rfl ?_ | refine lF rfl rfl ?_)
            refine l_op rfl (o_buildslice rfl rfl rfl rfl rfl rfl) fun ⟨bq, hbq⟩ => ?_
            refine l_op rfl (ho_perm (bring5 _ _ _ _ _ _ _) (o_append (news := [.string ⟨x0.toArray⟩]) rfl rfl rfl rfl rfl rfl rfl rfl (by omega) (fun w' hw' j v hj => by rw [add_at, Nat.zero_add]; exact own_rd (hw'.item _ (.tail _ (.head _))).1 j v hj))) fun o' => ?_
            rw [happ, hal]
            (repeat first | with_reducible (first | apply t_seq | apply t_region | apply t_block | apply t_ret | apply t_skip | apply t_exit | apply l_nil | apply x_then | apply x_pass_exit | apply x_pass_ret | apply x_block_ret | apply x_block_normal | apply x_block_here | apply x_block_out rfl) | refine lAv rfl ?_ | refine l_no rfl ?_ | refine tT rfl rfl ?_ | refine tF rfl rfl ?_ | refine lT rfl rfl ?_ | refine lF rfl rfl ?_)
            refine l_op rfl (ho_perm (bring5 _ _ _ _ _ _ _) (o_store1 rfl rfl rfl rfl (slV_cells _ _) (slV_one _ _) (by rw [strmO_size R hr32]; decide))) fun _ => ?_
            rw [strmO_set R hr32]
            (repeat first | with_reducible (first | apply t_seq | apply t_region | apply t_block | apply t_ret | apply t_skip | apply t_exit | apply l_nil | apply x_then | apply x_pass_exit | apply x_pass_ret | apply x_block_ret | apply x_block_normal | apply x_block_here | apply x_block_out rfl) | refine lAv rfl ?_ | refine l_no rfl ?_ | refine tT rfl rfl ?_ | refine tF rfl rfl ?_ | refine lT rfl rfl ?_ | refine lF rfl rfl ?_)
            refine l_op rfl (ho_perm (bring5 _ _ _ _ _ _ _) (o_storea (cs' := #[.string ⟨s2.1.toArray⟩, .bool s2.2]) rfl rfl rfl rfl rfl rfl)) fun _ => ?_
            (repeat first | with_reducible (first | apply t_seq | apply t_region | apply t_block | apply t_ret | apply t_skip | apply t_exit | apply l_nil | apply x_then | apply x_pass_exit | apply x_pass_ret | apply x_block_ret | apply x_block_normal | apply x_block_here | apply x_block_out rfl) | refine lAv rfl ?_ | refine l_no rfl ?_ | refine tT rfl rfl ?_ | refine tF rfl rfl ?_ | refine lT rfl rfl ?_ | refine lF rfl rfl ?_)
            exact x_round ⟨i + 1, s2, cs ++ [x0], o'⟩ ⟨rfl, rfl, rfl, rfl, rfl, rfl, rfl, trivial⟩ ⟨hik, by simp only [List.length_append, List.length_singleton, g2], hs2, fun q hq => by
              rcases List.mem_append.1 hq with hq | hq
              · exact g4 q hq
              · rw [List.mem_singleton.1 hq]; exact hxl, by simp only [hm2]; rw [g5, List.append_assoc]; rfl⟩ (fun w' hw' => hw'.pick [0, 1, 2, 6, 7] rfl rfl) (by simp only; omega)
        · obtain rfl : i = k := by omega
          rw [Nat.sub_self] at g5
          (repeat first | with_reducible (first | apply t_seq | apply t_region | apply t_block | apply t_ret | apply t_skip | apply t_exit | apply l_nil | apply x_then | apply x_pass_exit | apply x_pass_ret | apply x_block_ret | apply x_block_normal | apply x_block_here | apply x_block_out rfl) | refine lAv rfl ?_ | refine l_no rfl ?_ | refine tT rfl rfl ?_ | refine tF rfl rfl ?_ | refine lT rfl rfl ?_ | refine lF rfl rfl ?_)
          exact x_join ⟨i, (sr, sb), cs, o⟩ ⟨rfl, rfl, rfl, rfl, rfl, trivial⟩ ⟨by rw [g5]; simp [chF], by rw [g5]; rfl, by simp only; omega, g4⟩ (fun w' hw' => hw')
      · simp only at g1 g2 g3 g4 ⊢
        have hpar : parF B = (⟨R, cs⟩, st) := by rw [hq0, g1, g2]
        rw [hpar] at hT0
        rw [g1] at hcb
        obtain ⟨sr, sb⟩ := st
        simp only at hT0
        cases sb with
        | true =>
          rw [if_neg (fun h => by cases h.1)] at hT0
          rw [hT0]
          simp only [Option.getD_none]
          (repeat first | with_reducible (first | apply t_seq | apply t_region | apply t_block | apply t_ret | apply t_skip | apply t_exit | apply l_nil | apply x_then | apply x_pass_exit | apply x_pass_ret | apply x_block_ret | apply x_block_normal | apply x_block_here | apply x_block_out rfl) | refine lAv rfl ?_ | refine l_no rfl ?_ | refine tT rfl rfl ?_ | refine tF rfl rfl ?_ | refine lT rfl rfl ?_ | refine lF rfl rfl ?_)
          refine l_op rfl (ho_perm (bring3 _ _ _ _ _) (o_storea (cs' := strmO (List.replicate 32 0) none 0) rfl rfl rfl rfl (strmO_one _ _ _) rfl)) fun _ => ?_
          (repeat first | with_reducible (first | apply t_seq | apply t_region | apply t_block | apply t_ret | apply t_skip | apply t_exit | apply l_nil | apply x_then | apply x_pass_exit | apply x_pass_ret | apply x_block_ret | apply x_block_normal | apply x_block_here | apply x_block_out rfl) | refine lAv rfl ?_ | refine l_no rfl ?_ | refine tT rfl rfl ?_ | refine tF rfl rfl ?_ | refine lT rfl rfl ?_ | refine lF rfl rfl ?_)
          refine x_imp (fun w hw => hp_nil1 9 1 hw) ?_
          exact x_ct2 none rfl ⟨_, rfl, loada_run rfl (.tail _ (.head _))⟩ rfl rfl trivial (.cons_cons _ (List.nil_sublist _)) (by simp [own_stable])
        | false =>
          refine t_fact (fun w hw => (own_val (hw.item (own 9 1 o cs.length (strs (bas cs))) (by simp)).1)) fun ⟨hsl, hcap⟩ => ?_
          have hso : strmO R o cs.length = strmA R (slA o) cs.length (slC o) := by unfold strmO strmA; rw [hsl]
          have hchz : (chP cs).length ≤ 900000 := by omega
          rw [hso]
          (repeat first | with_reducible (first | apply t_seq | apply t_region | apply t_block | apply t_ret | apply t_skip | apply t_exit | apply l_nil | apply x_then | apply x_pass_exit | apply x_pass_ret | apply x_block_ret | apply x_block_normal | apply x_block_here | apply x_block_out rfl) | refine lAv rfl ?_ | refine l_no rfl ?_ | refine tT rfl rfl ?_ | refine tF rfl rfl ?_ | refine lT rfl rfl ?_ | refine lF rfl rfl ?_)
          refine l_w rfl (v_loada rfl (by rw [strm_size _ hr32]; rfl) (.tail _ (.head _))) ?_
          (repeat first | with_reducible (first | apply t_seq | apply t_region | apply t_block | apply t_ret | apply t_skip | apply t_exit | apply l_nil | apply x_then | apply x_pass_exit | apply x_pass_ret | apply x_block_ret | apply x_block_normal | apply x_block_here | apply x_block_out rfl) | refine lAv rfl ?_ | refine l_no rfl ?_ | refine tT rfl rfl ?_ | refine tF rfl rfl ?_ | refine lT rfl rfl ?_ | refine lF rfl rfl ?_)
          refine l_opg rfl (o_pure rfl (by kernel_rfl) rfl (fun w1 hw1 => rmay33_calls R cs (slA o) (slC o) hr32 w1 (own_ChL (hw1.item (own 9 1 o cs.length (strs (bas cs))) (by simp)).1 (by omega) g4))) fun _ => ?_
          cases hmay : mayF ⟨R, cs⟩ with
          | false =>
            rw [hmay, if_neg (fun h => by cases h.2.1)] at hT0
            rw [hT0]
            simp only [Option.getD_none]
            (repeat first | with_reducible (first | apply t_seq | apply t_region | apply t_block | apply t_ret | apply t_skip | apply t_exit | apply l_nil | apply x_then | apply x_pass_exit | apply x_pass_ret | apply x_block_ret | apply x_block_normal | apply x_block_here | apply x_block_out rfl) | refine lAv rfl ?_ | refine l_no rfl ?_ | refine tT rfl rfl ?_ | refine tF rfl rfl ?_ | refine lT rfl rfl ?_ | refine lF rfl rfl ?_)
            refine l_op rfl (ho_perm (bring3 _ _ _ _ _) (o_storea (cs' := strmO (List.replicate 32 0) none 0) rfl rfl rfl rfl (strmO_one _ _ _) rfl)) fun _ => ?_
            (repeat first | with_reducible (first | apply t_seq | apply t_region | apply t_block | apply t_ret | apply t_skip | apply t_exit | apply l_nil | apply x_then | apply x_pass_exit | apply x_pass_ret | apply x_block_ret | apply x_block_normal | apply x_block_here | apply x_block_out rfl) | refine lAv rfl ?_ | refine l_no rfl ?_ | refine tT rfl rfl ?_ | refine tF rfl rfl ?_ | refine lT rfl rfl ?_ | refine lF rfl rfl ?_)
            refine x_imp (fun w hw => hp_nil1 9 1 hw) ?_
            exact x_ct2 none rfl ⟨_, rfl, loada_run rfl (.tail _ (.head _))⟩ rfl rfl trivial (.cons_cons _ (List.nil_sublist _)) (by simp [own_stable])
          | true =>
            (repeat first | with_reducible (first | apply t_seq | apply t_region | apply t_block | apply t_ret | apply t_skip | apply t_exit | apply l_nil | apply x_then | apply x_pass_exit | apply x_pass_ret | apply x_block_ret | apply x_block_normal | apply x_block_here | apply x_block_out rfl) | refine lAv rfl ?_ | refine l_no rfl ?_ | refine tT rfl rfl ?_ | refine tF rfl rfl ?_ | refine lT rfl rfl ?_ | refine lF rfl rfl ?_)
            refine l_w rfl (v_loada rfl (by rw [strm_size _ hr32]; rfl) (.tail _ (.head _))) ?_
            refine l_opg rfl (o_pure rfl (by kernel_rfl) rfl (fun w1 hw1 => rput33_calls R cs (slA o) (slC o) hr32 hchz w1 (own_ChL (hw1.item (own 9 1 o cs.length (strs (bas cs))) (by simp)).1 (by omega) g4))) fun _ => ?_
            by_cases hpb : putF ⟨R, cs⟩ = bs
            · rw [if_pos ⟨rfl, hmay, hpb⟩] at hT0
              have hbe : (⟨(putF ⟨R, cs⟩).toArray⟩ : ByteArray) = ⟨bs.toArray⟩ := by rw [hpb]
              rw [hT0]
              simp only [Option.getD_some]
              (repeat first | with_reducible (first | apply t_seq | apply t_region | apply t_block | apply t_ret | apply t_skip | apply t_exit | apply l_nil | apply x_then | apply x_pass_exit | apply x_pass_ret | apply x_block_ret | apply x_block_normal | apply x_block_here | apply x_block_out rfl) | refine lAv rfl ?_ | refine l_no rfl ?_ | refine tT rfl rfl ?_ | refine tF rfl rfl ?_ | refine lT rfl rfl ?_ | refine lF rfl rfl ?_)
              refine l_w rfl (v_loada rfl (by rw [strm_size _ hr32]; rfl) (.tail _ (.head _))) ?_
              refine l_op rfl (ho_perm (bring3 _ _ _ _ _) (o_storea (cs' := strmA R (slA o) cs.length (slC o)) rfl rfl rfl (by rw [strm_size _ hr32]; rfl) (strm_one _ _ _ _) (by rw [strm_size _ hr32, strmO_size _ rfl]))) fun _ => ?_
              (repeat first | with_reducible (first | apply t_seq | apply t_region | apply t_block | apply t_ret | apply t_skip | apply t_exit | apply l_nil | apply x_then | apply x_pass_exit | apply x_pass_ret | apply x_block_ret | apply x_block_normal | apply x_block_here | apply x_block_out rfl) | refine lAv rfl ?_ | refine l_no rfl ?_ | refine tT rfl rfl ?_ | refine tF rfl rfl ?_ | refine lT rfl rfl ?_ | refine lF rfl rfl ?_)
              rw [← hso]
              refine x_pick [3, 0] rfl rfl ?_
              exact x_ct2 o rfl ⟨_, rfl, loada_run (by rw [strmO_size _ hr32]; rfl) (.tail _ (.head _))⟩ rfl rfl trivial (.cons_cons _ (List.nil_sublist _)) (by simp [own_stable])
            · rw [if_neg (fun h => hpb h.2.2)] at hT0
              have hbe : ¬ (⟨(putF ⟨R, cs⟩).toArray⟩ : ByteArray) = ⟨bs.toArray⟩ := fun e => hpb (by have := congrArg (fun b => b.data.toList) e; simpa using this)
              rw [hT0]
              simp only [Option.getD_none]
              (repeat first | with_reducible (first | apply t_seq | apply t_region | apply t_block | apply t_ret | apply t_skip | apply t_exit | apply l_nil | apply x_then | apply x_pass_exit | apply x_pass_ret | apply x_block_ret | apply x_block_normal | apply x_block_here | apply x_block_out rfl) | refine lAv rfl ?_ | refine l_no rfl ?_ | refine tT rfl rfl ?_ | refine tF rfl rfl ?_ | refine lT rfl rfl ?_ | refine lF rfl rfl ?_)
              refine l_op rfl (ho_perm (bring3 _ _ _ _ _) (o_storea (cs' := strmO (List.replicate 32 0) none 0) rfl rfl rfl rfl (strmO_one _ _ _) rfl)) fun _ => ?_
              (repeat first | with_reducible (first | apply t_seq | apply t_region | apply t_block | apply t_ret | apply t_skip | apply t_exit | apply l_nil | apply x_then | apply x_pass_exit | apply x_pass_ret | apply x_block_ret | apply x_block_normal | apply x_block_here | apply x_block_out rfl) | refine lAv rfl ?_ | refine l_no rfl ?_ | refine tT rfl rfl ?_ | refine tF rfl rfl ?_ | refine lT rfl rfl ?_ | refine lF rfl rfl ?_)
              refine x_imp (fun w hw => hp_nil1 9 1 hw) ?_
              exact x_ct2 none rfl ⟨_, rfl, loada_run rfl (.tail _ (.head _))⟩ rfl rfl trivial (.cons_cons _ (List.nil_sublist _)) (by simp [own_stable])
    · rw [hsk, decide_eq_false hs, if_pos rfl] at hT0
      have hse : ¬ (⟨(beN 4 (crcF B).toNat).toArray⟩ : ByteArray) = ⟨D.toArray⟩ := fun e => hs (by have := congrArg (fun b => b.data.toList) e; simpa using this)
      rw [hT0]
      simp only [Option.getD_none]
      (repeat first | with_reducible (first | apply t_seq | apply t_region | apply t_block | apply t_ret | apply t_skip | apply t_exit | apply l_nil | apply x_then | apply x_pass_exit | apply x_pass_ret | apply x_block_ret | apply x_block_normal | apply x_block_here | apply x_block_out rfl) | refine lAv rfl ?_ | refine l_no rfl ?_ | refine tT rfl rfl ?_ | refine tF rfl rfl ?_ | refine lT rfl rfl ?_ | refine lF rfl rfl ?_)
      refine l_op rfl (o_storea rfl rfl rfl rfl rfl rfl) fun _ => ?_
      (repeat first | with_reducible (first | apply t_seq | apply t_region | apply t_block | apply t_ret | apply t_skip | apply t_exit | apply l_nil | apply x_then | apply x_pass_exit | apply x_pass_ret | apply x_block_ret | apply x_block_normal | apply x_block_here | apply x_block_out rfl) | refine lAv rfl ?_ | refine l_no rfl ?_ | refine tT rfl rfl ?_ | refine tF rfl rfl ?_ | refine lT rfl rfl ?_ | refine lF rfl rfl ?_)
      refine x_imp (fun w hw => hp_nil1 9 1 hw) ?_
      exact x_ct2 none rfl ⟨_, rfl, loada_run rfl (.tail _ (.head _))⟩ rfl rfl trivial (.cons_cons _ (List.nil_sublist _)) (by simp [own_stable])
end Go.Proofs.YtdkonngkbbgcgaaGreatDoor
