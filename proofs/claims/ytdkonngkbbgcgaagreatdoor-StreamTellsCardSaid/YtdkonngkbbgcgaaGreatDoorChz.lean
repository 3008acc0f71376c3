/- package chunk: a chunk's bytes. -/
import Derived.Test.YtdkonngkbbgcgaaGreatDoorChy
namespace Go.Proofs.YtdkonngkbbgcgaaGreatDoor
open Go.RowKit Go.Eng
set_option maxRecDepth 100000
set_option maxHeartbeats 40000000
/-- What stands ahead of the children. -/
def headC (c : Chk) : Bys := beN 1 c.kind ++ c.data ++ (if c.kind = 1 then [] else beN 1 c.kids.length)
theorem kidP_len (kind : Nat) (k : CKid) (h : KidOk k) : (kidP kind k).length ≤ 300 := by
  obtain ⟨h1, -, -, h4⟩ := h
  simp only [kidP, List.length_append, beN_length, h1]
  split
  · simp only [List.length_cons, List.length_append, beN_length]; omega
  · simp
theorem kids_len_le (kind : Nat) (ks : List CKid) (h : ∀ k ∈ ks, KidOk k) : (ks.flatMap (kidP kind)).length ≤ 300 * ks.length := by
  induction ks with
  | nil => simp
  | cons k ks ih =>
    rw [List.flatMap_cons, List.length_append, List.length_cons]
    have := kidP_len kind k (h k (by simp))
    have := ih fun q hq => h q (by simp [hq])
    omega
theorem take_flat (kind : Nat) (ks : List CKid) {i : Nat} (h : i < ks.length) : (ks.take (i + 1)).flatMap (kidP kind) = (ks.take i).flatMap (kidP kind) ++ kidP kind ks[i] := by
  rw [List.take_succ_eq_append_getElem h, List.flatMap_append]; simp
theorem cput_calls (kind : Nat) (data : Bys) (ks : List CKid) (a : Option Addr) (c : Nat) (hkd : kind < 256) (hk : ∀ k ∈ ks, KidOk k) (hz : ks.length ≤ 1000000) (hdz : data.length ≤ 100000000) (w : World) (hr : Rd w a (rowsV kidV ks)) :
    Ct Tryz.prog 61 #[.agg #[.int .u8 kind, .string ⟨data.toArray⟩, .slice a ks.length c]] w none' (fun o : Option (Nat × Nat) => .tuple #[slV o (if mayC ⟨kind, data, ks⟩ = true then putC ⟨kind, data, ks⟩ else []).length, .int .i64 ((if mayC ⟨kind, data, ks⟩ = true then 0 else 2 : Nat) : Int)]) (fun _ => True)
      (fun o => [own 5 1 o (if mayC ⟨kind, data, ks⟩ = true then putC ⟨kind, data, ks⟩ else []).length (bytesV (if mayC ⟨kind, data, ks⟩ = true then putC ⟨kind, data, ks⟩ else []))]) := by
  refine ct_of [_] Tryz.func61 rfl rfl ?_
  simp only [argSlots]
  (repeat first | with_reducible (first | apply t_seq | apply t_region | apply t_block | apply t_ret | apply t_skip | apply t_exit | apply l_nil | apply x_then | apply x_pass_exit | apply x_pass_ret | apply x_block_ret | apply x_block_normal | apply x_block_here | apply x_block_out rfl) | refine lAv rfl ?_ | refine l_no rfl ?_ | refine tT rfl rfl ?_ | refine tF rfl rfl ?_ | refine lT rfl rfl ?_ | refine lF rfl rfl ?_)
  refine l_boxa rfl rfl fun b1 hb1 => ?_
  (repeat first | with_reducible (first | apply t_seq | apply t_region | apply t_block | apply t_ret | apply t_skip | apply t_exit | apply l_nil | apply x_then | apply x_pass_exit | apply x_pass_ret | apply x_block_ret | apply x_block_normal | apply x_block_here | apply x_block_out rfl) | refine lAv rfl ?_ | refine l_no rfl ?_ | refine tT rfl rfl ?_ | refine tF rfl rfl ?_ | refine lT rfl rfl ?_ | refine lF rfl rfl ?_)
  refine l_opg rfl (o_pure rfl (by kernel_rfl) rfl (fun w1 hw1 => may_calls kind data ks a c hk hz (by omega) w1 (hr.keep hw1))) fun _ => ?_
  by_cases hm : mayC ⟨kind, data, ks⟩ = true
  · simp only [hm, if_true]
    have h6 := (mayC_iff.1 hm).2.1
    simp only at h6
    (repeat first | with_reducible (first | apply t_seq | apply t_region | apply t_block | apply t_ret | apply t_skip | apply t_exit | apply l_nil | apply x_then | apply x_pass_exit | apply x_pass_ret | apply x_block_ret | apply x_block_normal | apply x_block_here | apply x_block_out rfl) | refine lAv rfl ?_ | refine l_no rfl ?_ | refine tT rfl rfl ?_ | refine tF rfl rfl ?_ | refine lT rfl rfl ?_ | refine lF rfl rfl ?_)
    refine t_drawm [0] 9 rfl rfl (by kernel_rfl) ?_
    (repeat first | refine dAv [] rfl rfl rfl ?_ | refine dno [] rfl rfl rfl ?_ | refine dT [] rfl rfl rfl rfl ?_ | refine dF [] rfl rfl rfl rfl ?_)
    refine d_opg 0 ⟨by kernel_rfl, by decide⟩ rfl rfl (o_ct rfl (by kernel_rfl) rfl (fun w1 hw1 => new_calls w1)) (fun _ _ h => by first | exact h | exact Hp.sub h (.cons _ (.refl _)) | exact Hp.sub h (.cons _ (.cons _ (.refl _))) | exact Hp.sub h (.cons _ (.cons _ (.cons _ (.refl _)))) | exact Hp.sub h (.cons _ (.cons _ (.cons _ (.cons _ (.refl _))))) | exact Hp.sub h (.cons _ (.cons _ (.cons _ (.cons _ (.cons _ (.refl _)))))) | exact Hp.sub h (.cons _ (.cons _ (.cons _ (.cons _ (.cons _ (.cons _ (.refl _)))))))) fun ⟨b, hb⟩ => ?_
    (repeat first | refine dAv [] rfl rfl rfl ?_ | refine dno [] rfl rfl rfl ?_ | refine dT [] rfl rfl rfl rfl ?_ | refine dF [] rfl rfl rfl rfl ?_)
    refine d_opg 4 ⟨by kernel_rfl, by decide⟩ rfl rfl (o_cu (pre := pks b none []) rfl (by kernel_rfl) rfl (by simp [pt_stable, own_stable]) (fun w1 hw1 hh1 ha1 => put_calls b none [] 1 kind (.inl rfl) (by omega) (by simp) w1 hh1 ha1)) (fun _ _ h => by first | exact h | exact Hp.sub h (.cons _ (.refl _)) | exact Hp.sub h (.cons _ (.cons _ (.refl _))) | exact Hp.sub h (.cons _ (.cons _ (.cons _ (.refl _)))) | exact Hp.sub h (.cons _ (.cons _ (.cons _ (.cons _ (.refl _))))) | exact Hp.sub h (.cons _ (.cons _ (.cons _ (.cons _ (.cons _ (.refl _)))))) | exact Hp.sub h (.cons _ (.cons _ (.cons _ (.cons _ (.cons _ (.cons _ (.refl _)))))))) fun ⟨o1, _⟩ => ?_
    (repeat first | refine dAv [] rfl rfl rfl ?_ | refine dno [] rfl rfl rfl ?_ | refine dT [] rfl rfl rfl rfl ?_ | refine dF [] rfl rfl rfl rfl ?_)
    refine d_opg 7 ⟨by kernel_rfl, by decide⟩ rfl rfl (o_cu (pre := pks b o1 ([] ++ beN 1 kind)) rfl (by kernel_rfl) rfl (by simp [pt_stable, own_stable]) (fun w1 hw1 hh1 ha1 => text_calls b o1 ([] ++ beN 1 kind) ⟨data.toArray⟩ (by rw [ba_len, List.nil_append, beN_length]; omega) w1 hh1 ha1)) (fun _ _ h => by first | exact h | exact Hp.sub h (.cons _ (.refl _)) | exact Hp.sub h (.cons _ (.cons _ (.refl _))) | exact Hp.sub h (.cons _ (.cons _ (.cons _ (.refl _)))) | exact Hp.sub h (.cons _ (.cons _ (.cons _ (.cons _ (.refl _))))) | exact Hp.sub h (.cons _ (.cons _ (.cons _ (.cons _ (.cons _ (.refl _)))))) | exact Hp.sub h (.cons _ (.cons _ (.cons _ (.cons _ (.cons _ (.cons _ (.refl _)))))))) fun ⟨o2, _⟩ => ?_
    (repeat first | refine dAv [] rfl rfl rfl ?_ | refine dno [] rfl rfl rfl ?_ | refine dT [] rfl rfl rfl rfl ?_ | refine dF [] rfl rfl rfl rfl ?_)
    refine d_end (by kernel_rfl) ?_
    (repeat first | with_reducible (first | apply t_seq | apply t_region | apply t_block | apply t_ret | apply t_skip | apply t_exit | apply l_nil | apply x_then | apply x_pass_exit | apply x_pass_ret | apply x_block_ret | apply x_block_normal | apply x_block_here | apply x_block_out rfl) | refine lAv rfl ?_ | refine l_no rfl ?_ | refine tT rfl rfl ?_ | refine tF rfl rfl ?_ | refine lT rfl rfl ?_ | refine lF rfl rfl ?_)
    have hb1l : (beN 1 kind).length = 1 := beN_length 1 kind
    have hhead : ([] ++ beN 1 kind ++ (⟨data.toArray⟩ : ByteArray).data.toList) = beN 1 kind ++ data := by rw [List.nil_append]
    refine t_join (w0 := w) (F := none') (α := Option (Nat × Nat)) (fun _ => [(1, .pointer (some ⟨b1, 0, none⟩)), (4, .pointer (some ⟨b, 0, none⟩))]) (fun _ => True)
      (fun o => pks b o (headC ⟨kind, data, ks⟩) ++ [pt b1 (.cells #[.int .u8 kind, .string ⟨data.toArray⟩, .slice a ks.length c] 82 (0, 0))]) ?_ fun o3 _ => ?_
    · rw [hhead]
      by_cases k1 : kind = 1
      · have hh : headC ⟨kind, data, ks⟩ = beN 1 kind ++ data := by rw [headC]; simp only [if_pos k1, List.append_nil]
        (repeat first | with_reducible (first | apply t_seq | apply t_region | apply t_block | apply t_ret | apply t_skip | apply t_exit | apply l_nil | apply x_then | apply x_pass_exit | apply x_pass_ret | apply x_block_ret | apply x_block_normal | apply x_block_here | apply x_block_out rfl) | refine lAv rfl ?_ | refine l_no rfl ?_ | refine tT rfl rfl ?_ | refine tF rfl rfl ?_ | refine lT rfl rfl ?_ | refine lF rfl rfl ?_)
        exact x_join o2 ⟨rfl, rfl, trivial⟩ trivial (fun w' hw' => by rw [hh]; exact hw')
      · have hh : headC ⟨kind, data, ks⟩ = beN 1 kind ++ data ++ beN 1 ks.length := by rw [headC]; simp only [if_neg k1]
        (repeat first | with_reducible (first | apply t_seq | apply t_region | apply t_block | apply t_ret | apply t_skip | apply t_exit | apply l_nil | apply x_then | apply x_pass_exit | apply x_pass_ret | apply x_block_ret | apply x_block_normal | apply x_block_here | apply x_block_out rfl) | refine lAv rfl ?_ | refine l_no rfl ?_ | refine tT rfl rfl ?_ | refine tF rfl rfl ?_ | refine lT rfl rfl ?_ | refine lF rfl rfl ?_)
        refine l_opg rfl (o_cu (pre := pks b o2 (beN 1 kind ++ data)) rfl (by kernel_rfl) rfl (by simp [pt_stable, own_stable]) (fun w1 hw1 hh1 ha1 => put_calls b o2 _ 1 ks.length (.inl rfl) (by omega) (by rw [List.length_append]; omega) w1 hh1 ha1)) fun ⟨o4, _⟩ => ?_
        (repeat first | with_reducible (first | apply t_seq | apply t_region | apply t_block | apply t_ret | apply t_skip | apply t_exit | apply l_nil | apply x_then | apply x_pass_exit | apply x_pass_ret | apply x_block_ret | apply x_block_normal | apply x_block_here | apply x_block_out rfl) | refine lAv rfl ?_ | refine l_no rfl ?_ | refine tT rfl rfl ?_ | refine tF rfl rfl ?_ | refine lT rfl rfl ?_ | refine lF rfl rfl ?_)
        exact x_join o4 ⟨rfl, rfl, trivial⟩ trivial (fun w' hw' => by rw [hh]; exact hw')
    · have hhl : (headC ⟨kind, data, ks⟩).length ≤ data.length + 2 := by
        rw [headC, List.length_append, List.length_append, beN_length]
        split
        · simp; omega
        · rw [beN_length]; simp only; omega
      generalize hX : headC ⟨kind, data, ks⟩ = X at hhl
      (repeat first | with_reducible (first | apply t_seq | apply t_region | apply t_block | apply t_ret | apply t_skip | apply t_exit | apply l_nil | apply x_then | apply x_pass_exit | apply x_pass_ret | apply x_block_ret | apply x_block_normal | apply x_block_here | apply x_block_out rfl) | refine lAv rfl ?_ | refine l_no rfl ?_ | refine tT rfl rfl ?_ | refine tF rfl rfl ?_ | refine lT rfl rfl ?_ | refine lF rfl rfl ?_)
      refine t_for (α := Nat × Option (Nat × Nat)) (fun y => [(1, .pointer (some ⟨b1, 0, none⟩)), (4, .pointer (some ⟨b, 0, none⟩)), (29, .slice a ks.length c), (30, .int .i64 ks.length), (31, .int .i64 y.1)]) (fun y => y.1 ≤ ks.length)
        (fun y => pks b y.2 (X ++ (ks.take y.1).flatMap (kidP kind)) ++ [pt b1 (.cells #[.int .u8 kind, .string ⟨data.toArray⟩, .slice a ks.length c] 82 (0, 0))]) (fun y => ks.length - y.1) (0, o3) ⟨rfl, rfl, rfl, rfl, rfl, trivial⟩ (Nat.zero_le _) (fun w' hw' => by rw [List.take_zero, List.flatMap_nil, List.append_nil]; exact hw') fun ⟨i, o⟩ hi => ?_
      simp only at hi ⊢
      by_cases hi2 : i < ks.length
      · obtain ⟨bb, off, rfl, hr'⟩ := hr.at_ (by intro h; have := congrArg List.length h; rw [rowsV_length kidV_len] at this; simp only [List.length_nil] at this; omega)
        have hko := hk _ (List.getElem_mem hi2)
        have hup := take_flat kind ks hi2
        have hxl : (X ++ (ks.take i).flatMap (kidP kind)).length ≤ 100003000 := by
          rw [List.length_append]
          have := kids_len_le kind (ks.take i) fun q hq => hk q (List.mem_of_mem_take hq)
          rw [List.length_take] at this
          omega
        have hrow : ∀ (m : List Eng.Item) w', Hp w none' m w' → w'.rangeAt bb (off + i * 36) (kidV ks[i]) := fun m w' hw' => Rd.row kidV_len (rangeAt_old hr' (fun h => h) hw') hi2
        generalize ks[i] = k at hup hko hrow
        obtain ⟨hk1, hk2, hk3, hk4⟩ := hko
        generalize hY : X ++ (ks.take i).flatMap (kidP kind) = Y at hxl
        have hkid : kidP kind k = (if kind = 3 then (if k.dir then 1 else 0) :: (beN 1 k.name.length ++ k.name) else []) ++ (k.hash ++ (beN 1 k.height ++ beN 4 k.size)) := rfl
        (repeat first | with_reducible (first | apply t_seq | apply t_region | apply t_block | apply t_ret | apply t_skip | apply t_exit | apply l_nil | apply x_then | apply x_pass_exit | apply x_pass_ret | apply x_block_ret | apply x_block_normal | apply x_block_here | apply x_block_out rfl) | refine lAv rfl ?_ | refine l_no rfl ?_ | refine tT rfl rfl ?_ | refine tF rfl rfl ?_ | refine lT rfl rfl ?_ | refine lF rfl rfl ?_)
        refine l_w rfl (v_loadc (xs := kidV k) rfl (by rw [kidV_len]; rfl) (fun w' hw' => hrow _ w' hw')) ?_
        refine l_alloca rfl rfl fun b6 hb6 => ?_
        refine l_op rfl (o_storea (cs' := (kidV k).toArray) rfl rfl rfl (by rw [List.size_toArray, kidV_len]; rfl) (by rw [List.toList_toArray]; exact kid_one k) (by rw [List.size_toArray, kidV_len]; rfl)) fun _ => ?_
        (repeat first | with_reducible (first | apply t_seq | apply t_region | apply t_block | apply t_ret | apply t_skip | apply t_exit | apply l_nil | apply x_then | apply x_pass_exit | apply x_pass_ret | apply x_block_ret | apply x_block_normal | apply x_block_here | apply x_block_out rfl) | refine lAv rfl ?_ | refine l_no rfl ?_ | refine tT rfl rfl ?_ | refine tF rfl rfl ?_ | refine lT rfl rfl ?_ | refine lF rfl rfl ?_)
        refine t_pick [1, 2, 0, 3] rfl rfl ?_
        refine t_join (w0 := w) (F := none') (α := Option (Nat × Nat)) (fun _ => [(1, .pointer (some ⟨b1, 0, none⟩)), (4, .pointer (some ⟨b, 0, none⟩)), (6, .pointer (some ⟨b6, 0, none⟩)), (29, .slice (some ⟨bb, off, none⟩) ks.length c), (30, .int .i64 ks.length), (31, .int .i64 i)]) (fun _ => True)
          (fun o => pks b o (Y ++ (if kind = 3 then (if k.dir then 1 else 0) :: (beN 1 k.name.length ++ k.name) else [])) ++ [pt b6 (.cells (kidV k).toArray 85 (0, 0)), pt b1 (.cells #[.int .u8 kind, .string ⟨data.toArray⟩, .slice (some ⟨bb, off, none⟩) ks.length c] 82 (0, 0))]) ?_ fun o5 _ => ?_
        · by_cases k3 : kind = 3
          · simp only [if_pos k3]
            (repeat first | with_reducible (first | apply t_seq | apply t_region | apply t_block | apply t_ret | apply t_skip | apply t_exit | apply l_nil | apply x_then | apply x_pass_exit | apply x_pass_ret | apply x_block_ret | apply x_block_normal | apply x_block_here | apply x_block_out rfl) | refine lAv rfl ?_ | refine l_no rfl ?_ | refine tT rfl rfl ?_ | refine tF rfl rfl ?_ | refine lT rfl rfl ?_ | refine lF rfl rfl ?_)
            refine t_if rfl rfl (fun hd => ?_) (fun hd => ?_)
            · simp only [hd, if_true]
              (repeat first | with_reducible (first | apply t_seq | apply t_region | apply t_block | apply t_ret | apply t_skip | apply t_exit | apply l_nil | apply x_then | apply x_pass_exit | apply x_pass_ret | apply x_block_ret | apply x_block_normal | apply x_block_here | apply x_block_out rfl) | refine lAv rfl ?_ | refine l_no rfl ?_ | refine tT rfl rfl ?_ | refine tF rfl rfl ?_ | refine lT rfl rfl ?_ | refine lF rfl rfl ?_)
              refine t_drawm [2, 3] 6 rfl rfl (by kernel_rfl) ?_
              (repeat first | refine dAv [] rfl rfl rfl ?_ | refine dno [] rfl rfl rfl ?_ | refine dT [] rfl rfl rfl rfl ?_ | refine dF [] rfl rfl rfl rfl ?_)
              refine d_opg 2 ⟨by kernel_rfl, by decide⟩ rfl rfl (o_cu (pre := pks b o Y) rfl (by kernel_rfl) rfl (by simp [pt_stable, own_stable]) (fun w1 hw1 hh1 ha1 => put_calls b o Y 1 1 (.inl rfl) (by decide) (by omega) w1 hh1 ha1)) (fun _ _ h => by first | exact h | exact Hp.sub h (.cons _ (.refl _)) | exact Hp.sub h (.cons _ (.cons _ (.refl _))) | exact Hp.sub h (.cons _ (.cons _ (.cons _ (.refl _)))) | exact Hp.sub h (.cons _ (.cons _ (.cons _ (.cons _ (.refl _))))) | exact Hp.sub h (.cons _ (.cons _ (.cons _ (.cons _ (.cons _ (.refl _)))))) | exact Hp.sub h (.cons _ (.cons _ (.cons _ (.cons _ (.cons _ (.cons _ (.refl _)))))))) fun ⟨o6, _⟩ => ?_
              (repeat first | refine dAv [] rfl rfl rfl ?_ | refine dno [] rfl rfl rfl ?_ | refine dT [] rfl rfl rfl rfl ?_ | refine dF [] rfl rfl rfl rfl ?_)
              refine d_opg 5 ⟨by kernel_rfl, by decide⟩ rfl rfl (o_cu (pre := pks b o6 (Y ++ beN 1 1)) rfl (by kernel_rfl) rfl (by simp [pt_stable, own_stable]) (fun w1 hw1 hh1 ha1 => name_calls b o6 _ ⟨k.name.toArray⟩ (by rw [ba_len]; omega) (by rw [List.length_append, beN_length]; omega) w1 hh1 ha1)) (fun _ _ h => by first | exact h | exact Hp.sub h (.cons _ (.refl _)) | exact Hp.sub h (.cons _ (.cons _ (.refl _))) | exact Hp.sub h (.cons _ (.cons _ (.cons _ (.refl _)))) | exact Hp.sub h (.cons _ (.cons _ (.cons _ (.cons _ (.refl _))))) | exact Hp.sub h (.cons _ (.cons _ (.cons _ (.cons _ (.cons _ (.refl _)))))) | exact Hp.sub h (.cons _ (.cons _ (.cons _ (.cons _ (.cons _ (.cons _ (.refl _)))))))) fun ⟨o7, _⟩ => ?_
              (repeat first | refine dAv [] rfl rfl rfl ?_ | refine dno [] rfl rfl rfl ?_ | refine dT [] rfl rfl rfl rfl ?_ | refine dF [] rfl rfl rfl rfl ?_)
              refine d_end (by kernel_rfl) ?_
              (repeat first | with_reducible (first | apply t_seq | apply t_region | apply t_block | apply t_ret | apply t_skip | apply t_exit | apply l_nil | apply x_then | apply x_pass_exit | apply x_pass_ret | apply x_block_ret | apply x_block_normal | apply x_block_here | apply x_block_out rfl) | refine lAv rfl ?_ | refine l_no rfl ?_ | refine tT rfl rfl ?_ | refine tF rfl rfl ?_ | refine lT rfl rfl ?_ | refine lF rfl rfl ?_)
              refine x_join o7 ⟨rfl, rfl, rfl, rfl, rfl, rfl, trivial⟩ trivial (fun w' hw' => ?_)
              have e1 : (Y ++ beN 1 1 ++ (beN 1 (⟨k.name.toArray⟩ : ByteArray).size ++ (⟨k.name.toArray⟩ : ByteArray).data.toList)) = Y ++ 1 :: (beN 1 k.name.length ++ k.name) := by
                rw [ba_len, List.append_assoc]; rfl
              rw [e1] at hw'
              exact hw'
            · have hd' : k.dir = false := by simpa using hd
              simp only [hd', if_neg Bool.false_ne_true]
              (repeat first | with_reducible (first | apply t_seq | apply t_region | apply t_block | apply t_ret | apply t_skip | apply t_exit | apply l_nil | apply x_then | apply x_pass_exit | apply x_pass_ret | apply x_block_ret | apply x_block_normal | apply x_block_here | apply x_block_out rfl) | refine lAv rfl ?_ | refine l_no rfl ?_ | refine tT rfl rfl ?_ | refine tF rfl rfl ?_ | refine lT rfl rfl ?_ | refine lF rfl rfl ?_)
              refine t_drawm [2, 3] 6 rfl rfl (by kernel_rfl) ?_
              (repeat first | refine dAv [] rfl rfl rfl ?_ | refine dno [] rfl rfl rfl ?_ | refine dT [] rfl rfl rfl rfl ?_ | refine dF [] rfl rfl rfl rfl ?_)
              refine d_opg 2 ⟨by kernel_rfl, by decide⟩ rfl rfl (o_cu (pre := pks b o Y) rfl (by kernel_rfl) rfl (by simp [pt_stable, own_stable]) (fun w1 hw1 hh1 ha1 => put_calls b o Y 1 0 (.inl rfl) (by decide) (by omega) w1 hh1 ha1)) (fun _ _ h => by first | exact h | exact Hp.sub h (.cons _ (.refl _)) | exact Hp.sub h (.cons _ (.cons _ (.refl _))) | exact Hp.sub h (.cons _ (.cons _ (.cons _ (.refl _)))) | exact Hp.sub h (.cons _ (.cons _ (.cons _ (.cons _ (.refl _))))) | exact Hp.sub h (.cons _ (.cons _ (.cons _ (.cons _ (.cons _ (.refl _)))))) | exact Hp.sub h (.cons _ (.cons _ (.cons _ (.cons _ (.cons _ (.cons _ (.refl _)))))))) fun ⟨o6, _⟩ => ?_
              (repeat first | refine dAv [] rfl rfl rfl ?_ | refine dno [] rfl rfl rfl ?_ | refine dT [] rfl rfl rfl rfl ?_ | refine dF [] rfl rfl rfl rfl ?_)
              refine d_opg 5 ⟨by kernel_rfl, by decide⟩ rfl rfl (o_cu (pre := pks b o6 (Y ++ beN 1 0)) rfl (by kernel_rfl) rfl (by simp [pt_stable, own_stable]) (fun w1 hw1 hh1 ha1 => name_calls b o6 _ ⟨k.name.toArray⟩ (by rw [ba_len]; omega) (by rw [List.length_append, beN_length]; omega) w1 hh1 ha1)) (fun _ _ h => by first | exact h | exact Hp.sub h (.cons _ (.refl _)) | exact Hp.sub h (.cons _ (.cons _ (.refl _))) | exact Hp.sub h (.cons _ (.cons _ (.cons _ (.refl _)))) | exact Hp.sub h (.cons _ (.cons _ (.cons _ (.cons _ (.refl _))))) | exact Hp.sub h (.cons _ (.cons _ (.cons _ (.cons _ (.cons _ (.refl _)))))) | exact Hp.sub h (.cons _ (.cons _ (.cons _ (.cons _ (.cons _ (.cons _ (.refl _)))))))) fun ⟨o7, _⟩ => ?_
              (repeat first | refine dAv [] rfl rfl rfl ?_ | refine dno [] rfl rfl rfl ?_ | refine dT [] rfl rfl rfl rfl ?_ | refine dF [] rfl rfl rfl rfl ?_)
              refine d_end (by kernel_rfl) ?_
              (repeat first | with_reducible (first | apply t_seq | apply t_region | apply t_block | apply t_ret | apply t_skip | apply t_exit | apply l_nil | apply x_then | apply x_pass_exit | apply x_pass_ret | apply x_block_ret | apply x_block_normal | apply x_block_here | apply x_block_out rfl) | refine lAv rfl ?_ | refine l_no rfl ?_ | refine tT rfl rfl ?_ | refine tF rfl rfl ?_ | refine lT rfl rfl ?_ | refine lF rfl rfl ?_)
              refine x_join o7 ⟨rfl, rfl, rfl, rfl, rfl, rfl, trivial⟩ trivial (fun w' hw' => ?_)
              have e1 : (Y ++ beN 1 0 ++ (beN 1 (⟨k.name.toArray⟩ : ByteArray).size ++ (⟨k.name.toArray⟩ : ByteArray).data.toList)) = Y ++ 0 :: (beN 1 k.name.length ++ k.name) := by
                rw [ba_len, List.append_assoc]; rfl
              rw [e1] at hw'
              exact hw'
          · simp only [if_neg k3, List.append_nil]
            (repeat first | with_reducible (first | apply t_seq | apply t_region | apply t_block | apply t_ret | apply t_skip | apply t_exit | apply l_nil | apply x_then | apply x_pass_exit | apply x_pass_ret | apply x_block_ret | apply x_block_normal | apply x_block_here | apply x_block_out rfl) | refine lAv rfl ?_ | refine l_no rfl ?_ | refine tT rfl rfl ?_ | refine tF rfl rfl ?_ | refine lT rfl rfl ?_ | refine lF rfl rfl ?_)
            exact x_join o ⟨rfl, rfl, rfl, rfl, rfl, rfl, trivial⟩ trivial (fun w' hw' => hw')
        · generalize hZ : (if kind = 3 then (if k.dir = true then 1 else 0) :: (beN 1 k.name.length ++ k.name) else ([] : Bys)) = Z at hkid
          have hZl : Z.length ≤ 300 := by
            rw [← hZ]
            split
            · simp only [List.length_cons, List.length_append, beN_length]; omega
            · simp
          have hyz : (Y ++ Z).length ≤ 200000000 := by rw [List.length_append]; omega
          have hh32 : hash32 k.hash = k.hash := hash32_id hk1
          have h256 : k.height < 256 ^ 1 := hk2
          have h4 : k.size < 256 ^ 4 := hk3
          refine t_drawm [2, 3] 12 rfl rfl (by kernel_rfl) ?_
          (repeat first | refine dAv [] rfl rfl rfl ?_ | refine dno [] rfl rfl rfl ?_ | refine dT [] rfl rfl rfl rfl ?_ | refine dF [] rfl rfl rfl rfl ?_)
          refine d_v [] rfl rfl (by kernel_rfl) (fun _ h => by first | exact h | exact Hp.sub h (.cons _ (.refl _)) | exact Hp.sub h (.cons _ (.cons _ (.refl _))) | exact Hp.sub h (.cons _ (.cons _ (.cons _ (.refl _)))) | exact Hp.sub h (.cons _ (.cons _ (.cons _ (.cons _ (.refl _))))) | exact Hp.sub h (.cons _ (.cons _ (.cons _ (.cons _ (.cons _ (.refl _)))))) | exact Hp.sub h (.cons _ (.cons _ (.cons _ (.cons _ (.cons _ (.cons _ (.refl _)))))))) rfl rfl (v_loadcE (xs := bytesV k.hash) (c := (bytesV k.hash).toArray) rfl (by rw [bytesV_length, hk1]; rfl) (fun w' hw' => by have := kid_hash (rangeAt_pt (hw'.get (b := b6) (.head _))); rw [hh32] at this; exact this) rfl) ?_
          (repeat first | refine dAv [] rfl rfl rfl ?_ | refine dno [] rfl rfl rfl ?_ | refine dT [] rfl rfl rfl rfl ?_ | refine dF [] rfl rfl rfl rfl ?_)
          refine d_v [] rfl rfl (by kernel_rfl) (fun _ h => by first | exact h | exact Hp.sub h (.cons _ (.refl _)) | exact Hp.sub h (.cons _ (.cons _ (.refl _))) | exact Hp.sub h (.cons _ (.cons _ (.cons _ (.refl _)))) | exact Hp.sub h (.cons _ (.cons _ (.cons _ (.cons _ (.refl _))))) | exact Hp.sub h (.cons _ (.cons _ (.cons _ (.cons _ (.cons _ (.refl _)))))) | exact Hp.sub h (.cons _ (.cons _ (.cons _ (.cons _ (.cons _ (.cons _ (.refl _)))))))) rfl rfl (v_loadp rfl rfl (.head _) (by rw [List.getElem?_toArray]; exact kid_34 k)) ?_
          (repeat first | refine dAv [] rfl rfl rfl ?_ | refine dno [] rfl rfl rfl ?_ | refine dT [] rfl rfl rfl rfl ?_ | refine dF [] rfl rfl rfl rfl ?_)
          refine d_v [] rfl rfl (by kernel_rfl) (fun _ h => by first | exact h | exact Hp.sub h (.cons _ (.refl _)) | exact Hp.sub h (.cons _ (.cons _ (.refl _))) | exact Hp.sub h (.cons _ (.cons _ (.cons _ (.refl _)))) | exact Hp.sub h (.cons _ (.cons _ (.cons _ (.cons _ (.refl _))))) | exact Hp.sub h (.cons _ (.cons _ (.cons _ (.cons _ (.cons _ (.refl _)))))) | exact Hp.sub h (.cons _ (.cons _ (.cons _ (.cons _ (.cons _ (.cons _ (.refl _)))))))) rfl rfl (v_loadp rfl rfl (.head _) (by rw [List.getElem?_toArray]; exact kid_35 k)) ?_
          (repeat first | refine dAv [] rfl rfl rfl ?_ | refine dno [] rfl rfl rfl ?_ | refine dT [] rfl rfl rfl rfl ?_ | refine dF [] rfl rfl rfl rfl ?_)
          refine d_opg 3 ⟨by kernel_rfl, by decide⟩ rfl rfl (o_cu (pre := pks b o5 (Y ++ Z)) rfl (by kernel_rfl) rfl (by simp [pt_stable, own_stable]) (fun w1 hw1 hh1 ha1 => hash_calls b o5 (Y ++ Z) k.hash hk1 (by omega) w1 hh1 ha1)) (fun _ _ h => by first | exact h | exact Hp.sub h (.cons _ (.refl _)) | exact Hp.sub h (.cons _ (.cons _ (.refl _))) | exact Hp.sub h (.cons _ (.cons _ (.cons _ (.refl _)))) | exact Hp.sub h (.cons _ (.cons _ (.cons _ (.cons _ (.refl _))))) | exact Hp.sub h (.cons _ (.cons _ (.cons _ (.cons _ (.cons _ (.refl _)))))) | exact Hp.sub h (.cons _ (.cons _ (.cons _ (.cons _ (.cons _ (.cons _ (.refl _)))))))) fun ⟨o6, _⟩ => ?_
          (repeat first | refine dAv [] rfl rfl rfl ?_ | refine dno [] rfl rfl rfl ?_ | refine dT [] rfl rfl rfl rfl ?_ | refine dF [] rfl rfl rfl rfl ?_)
          refine d_opg 7 ⟨by kernel_rfl, by decide⟩ rfl rfl (o_cu (pre := pks b o6 (Y ++ Z ++ k.hash)) rfl (by kernel_rfl) rfl (by simp [pt_stable, own_stable]) (fun w1 hw1 hh1 ha1 => put_calls b o6 _ 1 k.height (.inl rfl) h256 (by rw [List.length_append]; omega) w1 hh1 ha1)) (fun _ _ h => by first | exact h | exact Hp.sub h (.cons _ (.refl _)) | exact Hp.sub h (.cons _ (.cons _ (.refl _))) | exact Hp.sub h (.cons _ (.cons _ (.cons _ (.refl _)))) | exact Hp.sub h (.cons _ (.cons _ (.cons _ (.cons _ (.refl _))))) | exact Hp.sub h (.cons _ (.cons _ (.cons _ (.cons _ (.cons _ (.refl _)))))) | exact Hp.sub h (.cons _ (.cons _ (.cons _ (.cons _ (.cons _ (.cons _ (.refl _)))))))) fun ⟨o7, _⟩ => ?_
          (repeat first | refine dAv [] rfl rfl rfl ?_ | refine dno [] rfl rfl rfl ?_ | refine dT [] rfl rfl rfl rfl ?_ | refine dF [] rfl rfl rfl rfl ?_)
          refine d_opg 11 ⟨by kernel_rfl, by decide⟩ rfl rfl (o_cu (pre := pks b o7 (Y ++ Z ++ k.hash ++ beN 1 k.height)) rfl (by kernel_rfl) rfl (by simp [pt_stable, own_stable]) (fun w1 hw1 hh1 ha1 => put_calls b o7 _ 4 k.size (.inr (.inr rfl)) h4 (by rw [List.length_append, List.length_append, beN_length]; omega) w1 hh1 ha1)) (fun _ _ h => by first | exact h | exact Hp.sub h (.cons _ (.refl _)) | exact Hp.sub h (.cons _ (.cons _ (.refl _))) | exact Hp.sub h (.cons _ (.cons _ (.cons _ (.refl _)))) | exact Hp.sub h (.cons _ (.cons _ (.cons _ (.cons _ (.refl _))))) | exact Hp.sub h (.cons _ (.cons _ (.cons _ (.cons _ (.cons _ (.refl _)))))) | exact Hp.sub h (.cons _ (.cons _ (.cons _ (.cons _ (.cons _ (.cons _ (.refl _)))))))) fun ⟨o8, _⟩ => ?_
          (repeat first | refine dAv [] rfl rfl rfl ?_ | refine dno [] rfl rfl rfl ?_ | refine dT [] rfl rfl rfl rfl ?_ | refine dF [] rfl rfl rfl rfl ?_)
          refine d_end (by kernel_rfl) ?_
          (repeat first | with_reducible (first | apply t_seq | apply t_region | apply t_block | apply t_ret | apply t_skip | apply t_exit | apply l_nil | apply x_then | apply x_pass_exit | apply x_pass_ret | apply x_block_ret | apply x_block_normal | apply x_block_here | apply x_block_out rfl) | refine lAv rfl ?_ | refine l_no rfl ?_ | refine tT rfl rfl ?_ | refine tF rfl rfl ?_ | refine lT rfl rfl ?_ | refine lF rfl rfl ?_)
          refine x_round (i + 1, o8) ⟨rfl, rfl, rfl, rfl, rfl, trivial⟩ hi2 (fun w' hw' => ?_) (by simp only; omega)
          have e1 : X ++ (ks.take (i + 1)).flatMap (kidP kind) = Y ++ Z ++ k.hash ++ beN 1 k.height ++ beN 4 k.size := by
            rw [hup, hkid, ← List.append_assoc, hY]; simp only [List.append_assoc]
          simp only [e1]
          exact hw'.pick [0, 1, 3] rfl rfl
      · obtain rfl : i = ks.length := by omega
        rw [List.take_length]
        (repeat first | with_reducible (first | apply t_seq | apply t_region | apply t_block | apply t_ret | apply t_skip | apply t_exit | apply l_nil | apply x_then | apply x_pass_exit | apply x_pass_ret | apply x_block_ret | apply x_block_normal | apply x_block_here | apply x_block_out rfl) | refine lAv rfl ?_ | refine l_no rfl ?_ | refine tT rfl rfl ?_ | refine tF rfl rfl ?_ | refine lT rfl rfl ?_ | refine lF rfl rfl ?_)
        refine l_opg rfl (o_cu (pre := pks b o (X ++ ks.flatMap (kidP kind))) rfl (by kernel_rfl) rfl (by simp [pt_stable, own_stable]) (fun w1 hw1 hh1 ha1 => bytes_calls b o _ (by rw [List.length_append]; have := kids_len_le kind ks hk; omega) w1 hh1 ha1)) fun ⟨o8, _⟩ => ?_
        (repeat first | with_reducible (first | apply t_seq | apply t_region | apply t_block | apply t_ret | apply t_skip | apply t_exit | apply l_nil | apply x_then | apply x_pass_exit | apply x_pass_ret | apply x_block_ret | apply x_block_normal | apply x_block_here | apply x_block_out rfl) | refine lAv rfl ?_ | refine l_no rfl ?_ | refine tT rfl rfl ?_ | refine tF rfl rfl ?_ | refine lT rfl rfl ?_ | refine lF rfl rfl ?_)
        have hput : putC ⟨kind, data, ks⟩ = X ++ ks.flatMap (kidP kind) := by rw [← hX, headC, putC]
        rw [hput]
        exact x_ct2 o8 rfl rfl rfl rfl trivial (.cons_cons _ (List.nil_sublist _)) (by simp [own_stable])
  · have hmf : mayC ⟨kind, data, ks⟩ = false := by simpa using hm
    simp only [hmf, if_neg Bool.false_ne_true]
    (repeat first | with_reducible (first | apply t_seq | apply t_region | apply t_block | apply t_ret | apply t_skip | apply t_exit | apply l_nil | apply x_then | apply x_pass_exit | apply x_pass_ret | apply x_block_ret | apply x_block_normal | apply x_block_here | apply x_block_out rfl) | refine lAv rfl ?_ | refine l_no rfl ?_ | refine tT rfl rfl ?_ | refine tF rfl rfl ?_ | refine lT rfl rfl ?_ | refine lF rfl rfl ?_)
    refine x_imp (fun w hw => hp_nil1 5 1 hw) ?_
    exact x_ct2 none rfl rfl rfl rfl trivial (.cons_cons _ (List.nil_sublist _)) (by simp [own_stable])
end Go.Proofs.YtdkonngkbbgcgaaGreatDoor
