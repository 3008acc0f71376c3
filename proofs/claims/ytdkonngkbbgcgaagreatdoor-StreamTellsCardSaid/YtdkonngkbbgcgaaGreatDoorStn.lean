/- package stream: a stream's bytes. -/
import Derived.Test.YtdkonngkbbgcgaaGreatDoorStm
namespace Go.Proofs.YtdkonngkbbgcgaaGreatDoor
open Go.RowKit Go.Eng
set_option maxRecDepth 100000
set_option maxHeartbeats 40000000
theorem chP_up (l : List Bys) {i : Nat} (h : i < l.length) : chP (l.take (i + 1)) = chP (l.take i) ++ (beN 2 l[i].length ++ l[i]) := by
  rw [chP, List.take_succ_eq_append_getElem h, List.flatMap_append]; simp [chP]
theorem chP_le (l : List Bys) (h : ∀ x ∈ l, x.length ≤ 65535) : (chP l).length ≤ 65537 * l.length := by
  induction l with
  | nil => simp [chP]
  | cons x l ih =>
    have e : (chP (x :: l)).length = 2 + x.length + (chP l).length := by simp [chP, beN_length, Nat.add_assoc]
    have h1 := h x (by simp)
    have h2 := ih fun q hq => h q (by simp [hq])
    rw [e, List.length_cons]; omega
theorem sput_calls (r : Bys) (l : List Bys) (a : Option Addr) (c : Nat) (hr : r.length = 32) (w : World) (hs : ChL w a c l) (ht : Tabs w) :
    Pu Tryz.prog 8 #[.agg (strmA r a l.length c)] w (.tuple #[.string ⟨(if mayF ⟨r, l⟩ = true then putF ⟨r, l⟩ else []).toArray⟩, .int .i64 ((if mayF ⟨r, l⟩ = true then 0 else 2 : Nat) : Int)]) := by
  refine pu_of [_] Tryz.func8 rfl rfl ?_
  simp only [argSlots]
  have hmany := hs.many
  have h32 := strm_32 r hr a l.length c
  (repeat first | with_reducible (first | apply t_seq | apply t_region | apply t_block | apply t_ret | apply t_skip | apply t_exit | apply l_nil | apply x_then | apply x_pass_exit | apply x_pass_ret | apply x_block_ret | apply x_block_normal | apply x_block_here | apply x_block_out rfl) | refine lAv rfl ?_ | refine l_no rfl ?_ | refine tT rfl rfl ?_ | refine tF rfl rfl ?_ | refine lT rfl rfl ?_ | refine lF rfl rfl ?_)
  refine l_boxa rfl rfl fun b1 hb1 => ?_
  (repeat first | with_reducible (first | apply t_seq | apply t_region | apply t_block | apply t_ret | apply t_skip | apply t_exit | apply l_nil | apply x_then | apply x_pass_exit | apply x_pass_ret | apply x_block_ret | apply x_block_normal | apply x_block_here | apply x_block_out rfl) | refine lAv rfl ?_ | refine l_no rfl ?_ | refine tT rfl rfl ?_ | refine tF rfl rfl ?_ | refine lT rfl rfl ?_ | refine lF rfl rfl ?_)
  refine l_w rfl (v_loada rfl (by rw [strm_size r hr]; rfl) (.head _)) ?_
  refine l_opg rfl (o_pure rfl (by kernel_rfl) rfl (fun w1 hw1 => smay_calls r l a c hr w1 (hs.keep hw1) (ht.keep hw1))) fun _ => ?_
  by_cases hm : mayF ⟨r, l⟩ = true
  · simp only [hm, if_true]
    have h512 : l.length ≤ 512 := by
      unfold mayF mayP at hm
      simp only [Bool.and_eq_true, decide_eq_true_eq, List.length_map] at hm
      exact hm.1.2
    have hchl := chP_le l hs.long
    (repeat first | with_reducible (first | apply t_seq | apply t_region | apply t_block | apply t_ret | apply t_skip | apply t_exit | apply l_nil | apply x_then | apply x_pass_exit | apply x_pass_ret | apply x_block_ret | apply x_block_normal | apply x_block_here | apply x_block_out rfl) | refine lAv rfl ?_ | refine l_no rfl ?_ | refine tT rfl rfl ?_ | refine tF rfl rfl ?_ | refine lT rfl rfl ?_ | refine lF rfl rfl ?_)
    refine t_drawm [0] 11 rfl rfl (by kernel_rfl) ?_
    (repeat first | refine dAv [] rfl rfl rfl ?_ | refine dno [] rfl rfl rfl ?_ | refine dT [] rfl rfl rfl rfl ?_ | refine dF [] rfl rfl rfl rfl ?_)
    refine d_v [] rfl rfl (by kernel_rfl) (fun _ h => by first | exact h | exact Hp.sub h (.cons _ (.refl _)) | exact Hp.sub h (.cons _ (.cons _ (.refl _))) | exact Hp.sub h (.cons _ (.cons _ (.cons _ (.refl _)))) | exact Hp.sub h (.cons _ (.cons _ (.cons _ (.cons _ (.refl _))))) | exact Hp.sub h (.cons _ (.cons _ (.cons _ (.cons _ (.cons _ (.refl _)))))) | exact Hp.sub h (.cons _ (.cons _ (.cons _ (.cons _ (.cons _ (.cons _ (.refl _)))))))) rfl rfl (v_loadcE (xs := bytesV r) (c := (bytesV r).toArray) rfl (by rw [bytesV_length, hr]; rfl) (fun w' hw' => strm_root (hw'.get (b := b1) (.head _))) rfl) ?_
    (repeat first | refine dAv [] rfl rfl rfl ?_ | refine dno [] rfl rfl rfl ?_ | refine dT [] rfl rfl rfl rfl ?_ | refine dF [] rfl rfl rfl rfl ?_)
    refine d_v [] rfl rfl (by kernel_rfl) (fun _ h => by first | exact h | exact Hp.sub h (.cons _ (.refl _)) | exact Hp.sub h (.cons _ (.cons _ (.refl _))) | exact Hp.sub h (.cons _ (.cons _ (.cons _ (.refl _)))) | exact Hp.sub h (.cons _ (.cons _ (.cons _ (.cons _ (.refl _))))) | exact Hp.sub h (.cons _ (.cons _ (.cons _ (.cons _ (.cons _ (.refl _)))))) | exact Hp.sub h (.cons _ (.cons _ (.cons _ (.cons _ (.cons _ (.cons _ (.refl _)))))))) rfl rfl (v_loadp rfl rfl (.head _) h32) ?_
    (repeat first | refine dAv [] rfl rfl rfl ?_ | refine dno [] rfl rfl rfl ?_ | refine dT [] rfl rfl rfl rfl ?_ | refine dF [] rfl rfl rfl rfl ?_)
    refine d_opg 0 ⟨by kernel_rfl, by decide⟩ rfl rfl (o_ct rfl (by kernel_rfl) rfl (fun w1 hw1 => new_calls w1)) (fun _ _ h => by first | exact h | exact Hp.sub h (.cons _ (.refl _)) | exact Hp.sub h (.cons _ (.cons _ (.refl _))) | exact Hp.sub h (.cons _ (.cons _ (.cons _ (.refl _)))) | exact Hp.sub h (.cons _ (.cons _ (.cons _ (.cons _ (.refl _))))) | exact Hp.sub h (.cons _ (.cons _ (.cons _ (.cons _ (.cons _ (.refl _)))))) | exact Hp.sub h (.cons _ (.cons _ (.cons _ (.cons _ (.cons _ (.cons _ (.refl _)))))))) fun ⟨b, hb⟩ => ?_
    (repeat first | refine dAv [] rfl rfl rfl ?_ | refine dno [] rfl rfl rfl ?_ | refine dT [] rfl rfl rfl rfl ?_ | refine dF [] rfl rfl rfl rfl ?_)
    refine d_opg 1 ⟨by kernel_rfl, by decide⟩ rfl rfl (o_cu (pre := pks b none []) rfl (by kernel_rfl) rfl (by simp [pt_stable, own_stable]) (fun w1 hw1 hh1 ha1 => text_calls b none [] ⟨#[65, 82, 83, 84]⟩ (by decide) w1 hh1 ha1)) (fun _ _ h => by first | exact h | exact Hp.sub h (.cons _ (.refl _)) | exact Hp.sub h (.cons _ (.cons _ (.refl _))) | exact Hp.sub h (.cons _ (.cons _ (.cons _ (.refl _)))) | exact Hp.sub h (.cons _ (.cons _ (.cons _ (.cons _ (.refl _))))) | exact Hp.sub h (.cons _ (.cons _ (.cons _ (.cons _ (.cons _ (.refl _)))))) | exact Hp.sub h (.cons _ (.cons _ (.cons _ (.cons _ (.cons _ (.cons _ (.refl _)))))))) fun ⟨o1, _⟩ => ?_
    have e1 : [] ++ (⟨#[65, 82, 83, 84]⟩ : ByteArray).data.toList = magicL := rfl
    have hml : magicL.length = 4 := rfl
    rw [e1]
    (repeat first | refine dAv [] rfl rfl rfl ?_ | refine dno [] rfl rfl rfl ?_ | refine dT [] rfl rfl rfl rfl ?_ | refine dF [] rfl rfl rfl rfl ?_)
    refine d_opg 4 ⟨by kernel_rfl, by decide⟩ rfl rfl (o_cu (pre := pks b o1 magicL) rfl (by kernel_rfl) rfl (by simp [pt_stable, own_stable]) (fun w1 hw1 hh1 ha1 => hash_calls b o1 magicL r hr (by rw [hml]; decide) w1 hh1 ha1)) (fun _ _ h => by first | exact h | exact Hp.sub h (.cons _ (.refl _)) | exact Hp.sub h (.cons _ (.cons _ (.refl _))) | exact Hp.sub h (.cons _ (.cons _ (.cons _ (.refl _)))) | exact Hp.sub h (.cons _ (.cons _ (.cons _ (.cons _ (.refl _))))) | exact Hp.sub h (.cons _ (.cons _ (.cons _ (.cons _ (.cons _ (.refl _)))))) | exact Hp.sub h (.cons _ (.cons _ (.cons _ (.cons _ (.cons _ (.cons _ (.refl _)))))))) fun ⟨o2, _⟩ => ?_
    (repeat first | refine dAv [] rfl rfl rfl ?_ | refine dno [] rfl rfl rfl ?_ | refine dT [] rfl rfl rfl rfl ?_ | refine dF [] rfl rfl rfl rfl ?_)
    refine d_opg 9 ⟨by kernel_rfl, by decide⟩ rfl rfl (o_cu (pre := pks b o2 (magicL ++ r)) rfl (by kernel_rfl) rfl (by simp [pt_stable, own_stable]) (fun w1 hw1 hh1 ha1 => put_calls b o2 _ 2 l.length (.inr (.inl rfl)) (by omega) (by rw [List.length_append, hml, hr]; decide) w1 hh1 ha1)) (fun _ _ h => by first | exact h | exact Hp.sub h (.cons _ (.refl _)) | exact Hp.sub h (.cons _ (.cons _ (.refl _))) | exact Hp.sub h (.cons _ (.cons _ (.cons _ (.refl _)))) | exact Hp.sub h (.cons _ (.cons _ (.cons _ (.cons _ (.refl _))))) | exact Hp.sub h (.cons _ (.cons _ (.cons _ (.cons _ (.cons _ (.refl _)))))) | exact Hp.sub h (.cons _ (.cons _ (.cons _ (.cons _ (.cons _ (.cons _ (.refl _)))))))) fun ⟨o3, _⟩ => ?_
    (repeat first | refine dAv [] rfl rfl rfl ?_ | refine dno [] rfl rfl rfl ?_ | refine dT [] rfl rfl rfl rfl ?_ | refine dF [] rfl rfl rfl rfl ?_)
    refine d_end (by kernel_rfl) ?_
    obtain ⟨X, hX⟩ : ∃ X, magicL ++ r ++ beN 2 l.length = X := ⟨_, rfl⟩
    have hXl : X.length = 38 := by rw [← hX, List.length_append, List.length_append, beN_length, hr, hml]
    rw [hX]
    (repeat first | with_reducible (first | apply t_seq | apply t_region | apply t_block | apply t_ret | apply t_skip | apply t_exit | apply l_nil | apply x_then | apply x_pass_exit | apply x_pass_ret | apply x_block_ret | apply x_block_normal | apply x_block_here | apply x_block_out rfl) | refine lAv rfl ?_ | refine l_no rfl ?_ | refine tT rfl rfl ?_ | refine tF rfl rfl ?_ | refine lT rfl rfl ?_ | refine lF rfl rfl ?_)
    refine l_w rfl (v_loadp rfl rfl (.tail _ (.tail _ (.head _))) h32) ?_
    (repeat first | with_reducible (first | apply t_seq | apply t_region | apply t_block | apply t_ret | apply t_skip | apply t_exit | apply l_nil | apply x_then | apply x_pass_exit | apply x_pass_ret | apply x_block_ret | apply x_block_normal | apply x_block_here | apply x_block_out rfl) | refine lAv rfl ?_ | refine l_no rfl ?_ | refine tT rfl rfl ?_ | refine tF rfl rfl ?_ | refine lT rfl rfl ?_ | refine lF rfl rfl ?_)
    refine t_for (α := Nat × Option (Nat × Nat)) (fun y => [(4, .pointer (some ⟨b, 0, none⟩)), (23, .slice a l.length c), (24, .int .i64 l.length), (25, .int .i64 y.1)]) (fun y => y.1 ≤ l.length)
      (fun y => pks b y.2 (X ++ chP (l.take y.1))) (fun y => l.length - y.1) (0, o3) ⟨rfl, rfl, rfl, rfl, trivial⟩ (Nat.zero_le _) (fun w' hw' => by
        have e : chP (l.take 0) = [] := rfl
        simp only [e, List.append_nil]; exact hw'.pick [0, 1] rfl rfl) fun ⟨i, o⟩ hi => ?_
    simp only at hi ⊢
    by_cases hi2 : i < l.length
    · obtain ⟨bb, off, rfl, hcell⟩ := hs.at_ (by omega)
      have hci := hcell i hi2
      have hup := chP_up l hi2
      have hlong := hs.long _ (List.getElem_mem hi2)
      have hpre : (X ++ chP (l.take i)).length ≤ 40000000 := by
        have := chP_le (l.take i) fun q hq => hs.long q (List.mem_of_mem_take hq)
        rw [List.length_take] at this
        rw [List.length_append, hXl]; omega
      generalize l[i] = x at hci hup hlong
      have hxl := ba_len x
      (repeat first | with_reducible (first | apply t_seq | apply t_region | apply t_block | apply t_ret | apply t_skip | apply t_exit | apply l_nil | apply x_then | apply x_pass_exit | apply x_pass_ret | apply x_block_ret | apply x_block_normal | apply x_block_here | apply x_block_out rfl) | refine lAv rfl ?_ | refine l_no rfl ?_ | refine tT rfl rfl ?_ | refine tF rfl rfl ?_ | refine lT rfl rfl ?_ | refine lF rfl rfl ?_)
      refine l_w rfl (v_load0 rfl rfl (fun h => h) hci) ?_
      (repeat first | with_reducible (first | apply t_seq | apply t_region | apply t_block | apply t_ret | apply t_skip | apply t_exit | apply l_nil | apply x_then | apply x_pass_exit | apply x_pass_ret | apply x_block_ret | apply x_block_normal | apply x_block_here | apply x_block_out rfl) | refine lAv rfl ?_ | refine l_no rfl ?_ | refine tT rfl rfl ?_ | refine tF rfl rfl ?_ | refine lT rfl rfl ?_ | refine lF rfl rfl ?_)
      refine l_opg rfl (o_cu (pre := pks b o (X ++ chP (l.take i))) rfl (by kernel_rfl) rfl (by simp [pt_stable, own_stable]) (fun w1 hw1 hh1 ha1 => put_calls b o _ 2 (⟨x.toArray⟩ : ByteArray).size (.inr (.inl rfl)) (by rw [hxl]; omega) (by omega) w1 hh1 ha1)) fun ⟨o4, _⟩ => ?_
      (repeat first | with_reducible (first | apply t_seq | apply t_region | apply t_block | apply t_ret | apply t_skip | apply t_exit | apply l_nil | apply x_then | apply x_pass_exit | apply x_pass_ret | apply x_block_ret | apply x_block_normal | apply x_block_here | apply x_block_out rfl) | refine lAv rfl ?_ | refine l_no rfl ?_ | refine tT rfl rfl ?_ | refine tF rfl rfl ?_ | refine lT rfl rfl ?_ | refine lF rfl rfl ?_)
      refine l_opg rfl (o_cu (pre := pks b o4 (X ++ chP (l.take i) ++ beN 2 (⟨x.toArray⟩ : ByteArray).size)) rfl (by kernel_rfl) rfl (by simp [pt_stable, own_stable]) (fun w1 hw1 hh1 ha1 => text_calls b o4 _ ⟨x.toArray⟩ (by rw [List.length_append, beN_length, hxl]; omega) w1 hh1 ha1)) fun ⟨o5, _⟩ => ?_
      (repeat first | with_reducible (first | apply t_seq | apply t_region | apply t_block | apply t_ret | apply t_skip | apply t_exit | apply l_nil | apply x_then | apply x_pass_exit | apply x_pass_ret | apply x_block_ret | apply x_block_normal | apply x_block_here | apply x_block_out rfl) | refine lAv rfl ?_ | refine l_no rfl ?_ | refine tT rfl rfl ?_ | refine tF rfl rfl ?_ | refine lT rfl rfl ?_ | refine lF rfl rfl ?_)
      refine x_round (i + 1, o5) ⟨rfl, rfl, rfl, rfl, trivial⟩ hi2 (fun w' hw' => ?_) (by simp only; omega)
      have e2 : X ++ chP (l.take i) ++ beN 2 (⟨x.toArray⟩ : ByteArray).size ++ (⟨x.toArray⟩ : ByteArray).data.toList = X ++ chP (l.take (i + 1)) := by
        rw [hup, hxl]; simp only [List.append_assoc]
      rw [e2] at hw'
      exact hw'
    · obtain rfl : i = l.length := by omega
      have hbody : X ++ chP l = bodyF ⟨r, l⟩ := by rw [bodyF, ← hX]
      have hBl : (bodyF ⟨r, l⟩).length ≤ 40000000 := by rw [← hbody, List.length_append, hXl]; omega
      have hput : putF ⟨r, l⟩ = bodyF ⟨r, l⟩ ++ beN 4 (crcF (bodyF ⟨r, l⟩)).toNat := rfl
      rw [List.take_length, hbody, hput]
      generalize bodyF ⟨r, l⟩ = B at hBl
      (repeat first | with_reducible (first | apply t_seq | apply t_region | apply t_block | apply t_ret | apply t_skip | apply t_exit | apply l_nil | apply x_then | apply x_pass_exit | apply x_pass_ret | apply x_block_ret | apply x_block_normal | apply x_block_here | apply x_block_out rfl) | refine lAv rfl ?_ | refine l_no rfl ?_ | refine tT rfl rfl ?_ | refine tF rfl rfl ?_ | refine lT rfl rfl ?_ | refine lF rfl rfl ?_)
      refine l_opg rfl (o_cu (pre := pks b o B) rfl (by kernel_rfl) rfl (by simp [pt_stable, own_stable]) (fun w1 hw1 hh1 ha1 => bytes_calls b o B (by omega) w1 hh1 ha1)) fun ⟨o6, _⟩ => ?_
      refine l_fact (fun w hw => (own_val (hw.item (own 5 1 o6 B.length (bytesV B)) (by simp)).1)) fun ⟨hsl6, hcap6⟩ => ?_
      simp only [hsl6]
      (repeat first | with_reducible (first | apply t_seq | apply t_region | apply t_block | apply t_ret | apply t_skip | apply t_exit | apply l_nil | apply x_then | apply x_pass_exit | apply x_pass_ret | apply x_block_ret | apply x_block_normal | apply x_block_here | apply x_block_out rfl) | refine lAv rfl ?_ | refine l_no rfl ?_ | refine tT rfl rfl ?_ | refine tF rfl rfl ?_ | refine lT rfl rfl ?_ | refine lF rfl rfl ?_)
      refine l_opg rfl (o_pure rfl (by kernel_rfl) rfl (fun w1 hw1 => crc_calls (slA o6) B.length (slC o6) B rfl (by omega) w1 (own_Rd (hw1.item (own 5 1 o6 B.length (bytesV B)) (by simp)).1) (ht.keep hw1))) fun _ => ?_
      have hcl := (crcF B).isLt
      refine l_w rfl (v_cv (n := (crcF B).toNat) rfl rfl rfl (by omega)) ?_
      refine l_pick [1, 2] rfl rfl ?_
      refine l_opg rfl (o_cu (pre := pks b o B) rfl (by kernel_rfl) rfl (by simp [pt_stable, own_stable]) (fun w1 hw1 hh1 ha1 => put_calls b o B 4 (crcF B).toNat (.inr (.inr rfl)) (by omega) (by omega) w1 hh1 ha1)) fun ⟨o7, _⟩ => ?_
      refine l_opg rfl (o_cu (pre := pks b o7 (B ++ beN 4 (crcF B).toNat)) rfl (by kernel_rfl) rfl (by simp [pt_stable, own_stable]) (fun w1 hw1 hh1 ha1 => bytes_calls b o7 _ (by rw [List.length_append, beN_length]; omega) w1 hh1 ha1)) fun ⟨o8, _⟩ => ?_
      generalize B ++ beN 4 (crcF B).toNat = Z
      refine l_fact (fun w hw => (own_val (hw.item (own 5 1 o8 Z.length (bytesV Z)) (by simp)).1)) fun ⟨hsl8, hcap8⟩ => ?_
      simp only [hsl8]
      (repeat first | with_reducible (first | apply t_seq | apply t_region | apply t_block | apply t_ret | apply t_skip | apply t_exit | apply l_nil | apply x_then | apply x_pass_exit | apply x_pass_ret | apply x_block_ret | apply x_block_normal | apply x_block_here | apply x_block_out rfl) | refine lAv rfl ?_ | refine l_no rfl ?_ | refine tT rfl rfl ?_ | refine tF rfl rfl ?_ | refine lT rfl rfl ?_ | refine lF rfl rfl ?_)
      refine l_w rfl (v_bstr rfl rfl rfl rfl (fun w1 hw1 => own_Rd (hw1.item (own 5 1 o8 Z.length (bytesV Z)) (by simp)).1)) ?_
      (repeat first | with_reducible (first | apply t_seq | apply t_region | apply t_block | apply t_ret | apply t_skip | apply t_exit | apply l_nil | apply x_then | apply x_pass_exit | apply x_pass_ret | apply x_block_ret | apply x_block_normal | apply x_block_here | apply x_block_out rfl) | refine lAv rfl ?_ | refine l_no rfl ?_ | refine tT rfl rfl ?_ | refine tF rfl rfl ?_ | refine lT rfl rfl ?_ | refine lF rfl rfl ?_)
      exact x_pu2 rfl rfl rfl rfl
  · have hmf : mayF ⟨r, l⟩ = false := by simpa using hm
    simp only [hmf, if_neg Bool.false_ne_true]
    (repeat first | with_reducible (first | apply t_seq | apply t_region | apply t_block | apply t_ret | apply t_skip | apply t_exit | apply l_nil | apply x_then | apply x_pass_exit | apply x_pass_ret | apply x_block_ret | apply x_block_normal | apply x_block_here | apply x_block_out rfl) | refine lAv rfl ?_ | refine l_no rfl ?_ | refine tT rfl rfl ?_ | refine tF rfl rfl ?_ | refine lT rfl rfl ?_ | refine lF rfl rfl ?_)
    exact x_pu2 rfl rfl rfl rfl
end Go.Proofs.YtdkonngkbbgcgaaGreatDoor
