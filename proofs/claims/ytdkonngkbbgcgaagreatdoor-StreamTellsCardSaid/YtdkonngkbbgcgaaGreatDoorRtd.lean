/- The document's chunks (armariumref12): their bytes. -/
import Derived.Test.YtdkonngkbbgcgaaGreatDoorRtc
namespace Go.Eng
open Go.RowKit
theorem v_addb {P : Program} {l : Slots} {H : World → Prop} {x y : Operand} {T U ty : TypeId} {a b : List UInt8} (hx : evO l x = some (.string ⟨a.toArray⟩)) (hy : evO l y = some (.string ⟨b.toArray⟩)) (h : a.length + b.length < 9223372036854775808) : OV P (.binOp .add T x y U) ty l H (.string ⟨(a ++ b).toArray⟩) :=
  v_as (v_adds hx hy (by simpa [ByteArray.size] using h)) (congrArg Value.string (by
    have e : ∀ s t : ByteArray, s.data.toList = t.data.toList → s = t := fun s t h => by cases s; cases t; congr 1; exact Array.ext' h
    exact e _ _ (by simp)))
end Go.Eng
namespace Go.Proofs.YtdkonngkbbgcgaaGreatDoor
open Go.RowKit Go.Eng
set_option maxRecDepth 100000
set_option maxHeartbeats 40000000
def kidN (kind : Nat) (k : CKid) : Bys := if kind = 3 then (if k.dir then 1 else 0) :: (beN 1 k.name.length ++ k.name) else []
theorem kidP_eq (kind : Nat) (k : CKid) : kidP kind k = kidN kind k ++ (k.hash ++ (beN 1 k.height ++ beN 4 k.size)) := rfl
theorem flat_up (kind : Nat) (ks : List CKid) {i : Nat} (h : i < ks.length) : (ks.take (i + 1)).flatMap (kidP kind) = (ks.take i).flatMap (kidP kind) ++ kidP kind ks[i] := by
  rw [List.take_succ_eq_append_getElem h, List.flatMap_append]; simp
theorem flat_le (kind : Nat) (ks : List CKid) (hk : ∀ k ∈ ks, KidOk k) (i : Nat) : ((ks.take i).flatMap (kidP kind)).length ≤ 1000 * i := by
  induction i with
  | zero => simp
  | succ i ih =>
    by_cases h : i < ks.length
    · rw [flat_up kind ks h, List.length_append]
      have hko := hk _ (List.getElem_mem h)
      have : (kidP kind ks[i]).length ≤ 1000 := by
        rw [kidP_eq, List.length_append, List.length_append, List.length_append, beN_length, beN_length, hko.1]
        have h4 := hko.2.2.2
        unfold kidN
        split
        · rw [List.length_cons, List.length_append, beN_length]; omega
        · simp
      omega
    · rw [List.take_of_length_le (by omega)]
      rw [List.take_of_length_le (by omega)] at ih
      omega
theorem rput_calls (kind : Nat) (data : Bys) (ks : List CKid) (a : Option Addr) (c : Nat) (hk8 : kind < 256) (hk : ∀ k ∈ ks, KidOk k) (hz : ks.length ≤ 255) (hdz : data.length ≤ 1000000000) (h1 : kind = 1 → ks = []) (h2 : kind ≠ 1 → data = []) (w : World) (hr : Rd w a (rowsV kidV ks)) :
    Pu Tryz.prog 58 #[.agg #[.int .u8 kind, .string ⟨data.toArray⟩, .slice a ks.length c]] w (.string ⟨(putC ⟨kind, data, ks⟩).toArray⟩) := by
  refine pu_of [_] Tryz.func58 rfl rfl ?_
  simp only [argSlots]
  (repeat first | with_reducible (first | apply t_seq | apply t_region | apply t_block | apply t_ret | apply t_skip | apply t_exit | apply l_nil | apply x_then | apply x_pass_exit | apply x_pass_ret | apply x_block_ret | apply x_block_normal | apply x_block_here | apply x_block_out rfl) | refine lAv rfl ?_ | refine l_no rfl ?_ | refine tT rfl rfl ?_ | refine tF rfl rfl ?_ | refine lT rfl rfl ?_ | refine lF rfl rfl ?_)
  refine l_boxa rfl rfl fun b1 hb1 => ?_
  (repeat first | with_reducible (first | apply t_seq | apply t_region | apply t_block | apply t_ret | apply t_skip | apply t_exit | apply l_nil | apply x_then | apply x_pass_exit | apply x_pass_ret | apply x_block_ret | apply x_block_normal | apply x_block_here | apply x_block_out rfl) | refine lAv rfl ?_ | refine l_no rfl ?_ | refine tT rfl rfl ?_ | refine tF rfl rfl ?_ | refine lT rfl rfl ?_ | refine lF rfl rfl ?_)
  have hlenI : ∀ {b off : Nat} {m : List Eng.Item} {w' : World} (i : Nat) (hi : i < ks.length), w.rangeAt b off (rowsV kidV ks) → Hp w none' m w' → w'.rangeAt b (off + i * 36) (kidV ks[i]) := fun i hi hr' hw' => Rd.row kidV_len (rangeAt_old hr' (fun h => h) hw') hi
  have hat : ks ≠ [] → ∃ b off, a = some ⟨b, off, none⟩ ∧ w.rangeAt b off (rowsV kidV ks) := fun h => hr.at_ fun e => by
    have := congrArg List.length e
    rw [rowsV_length kidV_len] at this
    exact h (List.eq_nil_of_length_eq_zero (by simp only [List.length_nil] at this; omega))
  by_cases k1 : kind = 1
  · have hks := h1 k1
    subst hks
    have hput : putC ⟨kind, data, []⟩ = [1] ++ data := by unfold putC; simp only [k1, List.flatMap_nil, if_true, List.append_nil]; rfl
    rw [hput]
    (repeat first | with_reducible (first | apply t_seq | apply t_region | apply t_block | apply t_ret | apply t_skip | apply t_exit | apply l_nil | apply x_then | apply x_pass_exit | apply x_pass_ret | apply x_block_ret | apply x_block_normal | apply x_block_here | apply x_block_out rfl) | refine lAv rfl ?_ | refine l_no rfl ?_ | refine tT rfl rfl ?_ | refine tF rfl rfl ?_ | refine lT rfl rfl ?_ | refine lF rfl rfl ?_)
    refine l_w rfl (v_addb (a := [1]) (b := data) rfl rfl (by simp; omega)) ?_
    (repeat first | with_reducible (first | apply t_seq | apply t_region | apply t_block | apply t_ret | apply t_skip | apply t_exit | apply l_nil | apply x_then | apply x_pass_exit | apply x_pass_ret | apply x_block_ret | apply x_block_normal | apply x_block_here | apply x_block_out rfl) | refine lAv rfl ?_ | refine l_no rfl ?_ | refine tT rfl rfl ?_ | refine tF rfl rfl ?_ | refine lT rfl rfl ?_ | refine lF rfl rfl ?_)
    exact x_pu rfl rfl rfl
  · have hd := h2 k1
    have hput : putC ⟨kind, data, ks⟩ = beN 1 kind ++ beN 1 ks.length ++ ks.flatMap (kidP kind) := by unfold putC; simp only [if_neg k1, hd, List.append_nil]
    rw [hput]
    (repeat first | with_reducible (first | apply t_seq | apply t_region | apply t_block | apply t_ret | apply t_skip | apply t_exit | apply l_nil | apply x_then | apply x_pass_exit | apply x_pass_ret | apply x_block_ret | apply x_block_normal | apply x_block_here | apply x_block_out rfl) | refine lAv rfl ?_ | refine l_no rfl ?_ | refine tT rfl rfl ?_ | refine tF rfl rfl ?_ | refine lT rfl rfl ?_ | refine lF rfl rfl ?_)
    refine t_drawp (by kernel_rfl) ?_
    (repeat first | refine dAv [] rfl rfl rfl ?_ | refine dno [] rfl rfl rfl ?_ | refine dT [] rfl rfl rfl rfl ?_ | refine dF [] rfl rfl rfl rfl ?_)
    refine d_opg 3 ⟨by kernel_rfl, by decide⟩ rfl rfl (o_pure rfl (by kernel_rfl) rfl (fun w1 hw1 => num12_calls 1 kind (.inl rfl) (by omega) w1)) (fun _ _ h => h) fun _ => ?_
    (repeat first | refine dAv [] rfl rfl rfl ?_ | refine dno [] rfl rfl rfl ?_ | refine dT [] rfl rfl rfl rfl ?_ | refine dF [] rfl rfl rfl rfl ?_)
    refine d_opg 8 ⟨by kernel_rfl, by decide⟩ rfl rfl (o_pure rfl (by kernel_rfl) rfl (fun w1 hw1 => num12_calls 1 ks.length (.inl rfl) (by omega) w1)) (fun _ _ h => h) fun _ => ?_
    refine d_v [] rfl rfl (by kernel_rfl) (fun _ h => h) rfl rfl (v_addb rfl rfl (by rw [beN_length, beN_length]; decide)) ?_
    (repeat first | refine dAv [] rfl rfl rfl ?_ | refine dno [] rfl rfl rfl ?_ | refine dT [] rfl rfl rfl rfl ?_ | refine dF [] rfl rfl rfl rfl ?_)
    refine d_end (by kernel_rfl) ?_
    (repeat first | with_reducible (first | apply t_seq | apply t_region | apply t_block | apply t_ret | apply t_skip | apply t_exit | apply l_nil | apply x_then | apply x_pass_exit | apply x_pass_ret | apply x_block_ret | apply x_block_normal | apply x_block_here | apply x_block_out rfl) | refine lAv rfl ?_ | refine l_no rfl ?_ | refine tT rfl rfl ?_ | refine tF rfl rfl ?_ | refine lT rfl rfl ?_ | refine lF rfl rfl ?_)
    obtain ⟨X0, hX0⟩ : ∃ X, beN 1 kind ++ beN 1 ks.length = X := ⟨_, rfl⟩
    have hX0l : X0.length = 2 := by rw [← hX0, List.length_append, beN_length, beN_length]
    rw [hX0]
    refine t_for (α := Nat) (fun i => [(1, .pointer (some ⟨b1, 0, none⟩)), (3, .string ⟨(X0 ++ (ks.take i).flatMap (kidP kind)).toArray⟩), (4, .int .i64 i)]) (fun i => i ≤ ks.length)
      (fun _ => [pt b1 (.cells #[.int .u8 kind, .string ⟨data.toArray⟩, .slice a ks.length c] 70 (0, 0))]) (fun i => ks.length - i) 0 ⟨rfl, by rw [List.take_zero, List.flatMap_nil, List.append_nil]; rfl, rfl, trivial⟩ (Nat.zero_le _) (fun w' hw' => hw') fun i hi => ?_
    by_cases hi2 : i < ks.length
    · obtain ⟨b, off, rfl, hr'⟩ := hat (by rintro rfl; simp at hi2)
      have hup := flat_up kind ks hi2
      have hle := flat_le kind ks hk i
      have hko := hk _ (List.getElem_mem hi2)
      have hrow : ∀ (m : List Eng.Item) w', Hp w none' m w' → w'.rangeAt b (off + i * 36) (kidV ks[i]) := fun m w' hw' => hlenI i hi2 hr' hw'
      generalize ks[i] = k at hup hko hrow
      obtain ⟨X, hX⟩ : ∃ X, X0 ++ (ks.take i).flatMap (kidP kind) = X := ⟨_, rfl⟩
      have hXl : X.length ≤ 300000 := by rw [← hX, List.length_append]; omega
      have hup2 : X0 ++ (ks.take (i + 1)).flatMap (kidP kind) = X ++ kidN kind k ++ k.hash ++ beN 1 k.height ++ beN 4 k.size := by rw [hup, ← hX, kidP_eq]; simp
      rw [hX]
      obtain ⟨hk32, hk256, hksz, hknl⟩ := hko
      have hh32 := hash32_id hk32
      (repeat first | with_reducible (first | apply t_seq | apply t_region | apply t_block | apply t_ret | apply t_skip | apply t_exit | apply l_nil | apply x_then | apply x_pass_exit | apply x_pass_ret | apply x_block_ret | apply x_block_normal | apply x_block_here | apply x_block_out rfl) | refine lAv rfl ?_ | refine l_no rfl ?_ | refine tT rfl rfl ?_ | refine tF rfl rfl ?_ | refine lT rfl rfl ?_ | refine lF rfl rfl ?_)
      refine l_w rfl (v_loadc (xs := kidV k) rfl (by rw [kidV_len]; rfl) (fun w' hw' => hrow _ w' hw')) ?_
      refine l_alloca rfl rfl fun b5 hb5 => ?_
      refine l_op rfl (o_storea (cs' := (kidV k).toArray) rfl rfl rfl (by rw [List.size_toArray, kidV_len]; rfl) (by rw [List.toList_toArray]; exact kid_one k) (by rw [List.size_toArray, kidV_len]; rfl)) fun _ => ?_
      (repeat first | with_reducible (first | apply t_seq | apply t_region | apply t_block | apply t_ret | apply t_skip | apply t_exit | apply l_nil | apply x_then | apply x_pass_exit | apply x_pass_ret | apply x_block_ret | apply x_block_normal | apply x_block_here | apply x_block_out rfl) | refine lAv rfl ?_ | refine l_no rfl ?_ | refine tT rfl rfl ?_ | refine tF rfl rfl ?_ | refine lT rfl rfl ?_ | refine lF rfl rfl ?_)
      refine t_join (w0 := w) (F := none') (α := Unit) (fun _ => [(1, .pointer (some ⟨b1, 0, none⟩)), (3, .string ⟨(X ++ kidN kind k).toArray⟩), (4, .int .i64 i), (5, .pointer (some ⟨b5, 0, none⟩))]) (fun _ => True)
        (fun _ => [pt b5 (.cells (kidV k).toArray 75 (0, 0)), pt b1 (.cells #[.int .u8 kind, .string ⟨data.toArray⟩, .slice (some ⟨b, off, none⟩) ks.length c] 70 (0, 0))]) ?_ fun _ _ => ?_
      · by_cases k3 : kind = 3
        · have hkl := ba_len k.name
          (repeat first | with_reducible (first | apply t_seq | apply t_region | apply t_block | apply t_ret | apply t_skip | apply t_exit | apply l_nil | apply x_then | apply x_pass_exit | apply x_pass_ret | apply x_block_ret | apply x_block_normal | apply x_block_here | apply x_block_out rfl) | refine lAv rfl ?_ | refine l_no rfl ?_ | refine tT rfl rfl ?_ | refine tF rfl rfl ?_ | refine lT rfl rfl ?_ | refine lF rfl rfl ?_)
          cases hdir : k.dir with
          | true =>
            have hY : X ++ [1] ++ beN 1 k.name.length ++ k.name = X ++ kidN kind k := by unfold kidN; rw [if_pos k3, hdir]; simp
            (repeat first | with_reducible (first | apply t_seq | apply t_region | apply t_block | apply t_ret | apply t_skip | apply t_exit | apply l_nil | apply x_then | apply x_pass_exit | apply x_pass_ret | apply x_block_ret | apply x_block_normal | apply x_block_here | apply x_block_out rfl) | refine lAv rfl ?_ | refine l_no rfl ?_ | refine tT rfl rfl ?_ | refine tF rfl rfl ?_ | refine lT rfl rfl ?_ | refine lF rfl rfl ?_)
            refine l_w rfl (v_addb (a := X) (b := [1]) rfl rfl (by simp; omega)) ?_
            (repeat first | with_reducible (first | apply t_seq | apply t_region | apply t_block | apply t_ret | apply t_skip | apply t_exit | apply l_nil | apply x_then | apply x_pass_exit | apply x_pass_ret | apply x_block_ret | apply x_block_normal | apply x_block_here | apply x_block_out rfl) | refine lAv rfl ?_ | refine l_no rfl ?_ | refine tT rfl rfl ?_ | refine tF rfl rfl ?_ | refine lT rfl rfl ?_ | refine lF rfl rfl ?_)
            refine t_drawp (by kernel_rfl) ?_
            (repeat first | refine dAv [] rfl rfl rfl ?_ | refine dno [] rfl rfl rfl ?_ | refine dT [] rfl rfl rfl rfl ?_ | refine dF [] rfl rfl rfl rfl ?_)
            refine d_opg 5 ⟨by kernel_rfl, by decide⟩ rfl rfl (o_pure rfl (by kernel_rfl) rfl (fun w1 hw1 => num12_calls 1 (⟨k.name.toArray⟩ : ByteArray).size (.inl rfl) (by omega) w1)) (fun _ _ h => h) fun _ => ?_
            rw [hkl]
            refine d_v [] rfl rfl (by kernel_rfl) (fun _ h => h) rfl rfl (v_addb rfl rfl (by simp only [List.length_append, beN_length, List.length_singleton]; omega)) ?_
            (repeat first | refine dAv [] rfl rfl rfl ?_ | refine dno [] rfl rfl rfl ?_ | refine dT [] rfl rfl rfl rfl ?_ | refine dF [] rfl rfl rfl rfl ?_)
            refine d_v [] rfl rfl (by kernel_rfl) (fun _ h => h) rfl rfl (v_addb rfl rfl (by simp only [List.length_append, beN_length, List.length_singleton]; omega)) ?_
            (repeat first | refine dAv [] rfl rfl rfl ?_ | refine dno [] rfl rfl rfl ?_ | refine dT [] rfl rfl rfl rfl ?_ | refine dF [] rfl rfl rfl rfl ?_)
            refine d_end (by kernel_rfl) ?_
            (repeat first | with_reducible (first | apply t_seq | apply t_region | apply t_block | apply t_ret | apply t_skip | apply t_exit | apply l_nil | apply x_then | apply x_pass_exit | apply x_pass_ret | apply x_block_ret | apply x_block_normal | apply x_block_here | apply x_block_out rfl) | refine lAv rfl ?_ | refine l_no rfl ?_ | refine tT rfl rfl ?_ | refine tF rfl rfl ?_ | refine lT rfl rfl ?_ | refine lF rfl rfl ?_)
            rw [hY]
            exact x_join () ⟨rfl, rfl, rfl, rfl, trivial⟩ trivial (fun w' hw' => hw')
          | false =>
            have hY : X ++ [0] ++ beN 1 k.name.length ++ k.name = X ++ kidN kind k := by unfold kidN; rw [if_pos k3, hdir]; simp
            (repeat first | with_reducible (first | apply t_seq | apply t_region | apply t_block | apply t_ret | apply t_skip | apply t_exit | apply l_nil | apply x_then | apply x_pass_exit | apply x_pass_ret | apply x_block_ret | apply x_block_normal | apply x_block_here | apply x_block_out rfl) | refine lAv rfl ?_ | refine l_no rfl ?_ | refine tT rfl rfl ?_ | refine tF rfl rfl ?_ | refine lT rfl rfl ?_ | refine lF rfl rfl ?_)
            refine l_w rfl (v_addb (a := X) (b := [0]) rfl rfl (by simp; omega)) ?_
            (repeat first | with_reducible (first | apply t_seq | apply t_region | apply t_block | apply t_ret | apply t_skip | apply t_exit | apply l_nil | apply x_then | apply x_pass_exit | apply x_pass_ret | apply x_block_ret | apply x_block_normal | apply x_block_here | apply x_block_out rfl) | refine lAv rfl ?_ | refine l_no rfl ?_ | refine tT rfl rfl ?_ | refine tF rfl rfl ?_ | refine lT rfl rfl ?_ | refine lF rfl rfl ?_)
            refine t_drawp (by kernel_rfl) ?_
            (repeat first | refine dAv [] rfl rfl rfl ?_ | refine dno [] rfl rfl rfl ?_ | refine dT [] rfl rfl rfl rfl ?_ | refine dF [] rfl rfl rfl rfl ?_)
            refine d_opg 5 ⟨by kernel_rfl, by decide⟩ rfl rfl (o_pure rfl (by kernel_rfl) rfl (fun w1 hw1 => num12_calls 1 (⟨k.name.toArray⟩ : ByteArray).size (.inl rfl) (by omega) w1)) (fun _ _ h => h) fun _ => ?_
            rw [hkl]
            refine d_v [] rfl rfl (by kernel_rfl) (fun _ h => h) rfl rfl (v_addb rfl rfl (by simp only [List.length_append, beN_length, List.length_singleton]; omega)) ?_
            (repeat first | refine dAv [] rfl rfl rfl ?_ | refine dno [] rfl rfl rfl ?_ | refine dT [] rfl rfl rfl rfl ?_ | refine dF [] rfl rfl rfl rfl ?_)
            refine d_v [] rfl rfl (by kernel_rfl) (fun _ h => h) rfl rfl (v_addb rfl rfl (by simp only [List.length_append, beN_length, List.length_singleton]; omega)) ?_
            (repeat first | refine dAv [] rfl rfl rfl ?_ | refine dno [] rfl rfl rfl ?_ | refine dT [] rfl rfl rfl rfl ?_ | refine dF [] rfl rfl rfl rfl ?_)
            refine d_end (by kernel_rfl) ?_
            (repeat first | with_reducible (first | apply t_seq | apply t_region | apply t_block | apply t_ret | apply t_skip | apply t_exit | apply l_nil | apply x_then | apply x_pass_exit | apply x_pass_ret | apply x_block_ret | apply x_block_normal | apply x_block_here | apply x_block_out rfl) | refine lAv rfl ?_ | refine l_no rfl ?_ | refine tT rfl rfl ?_ | refine tF rfl rfl ?_ | refine lT rfl rfl ?_ | refine lF rfl rfl ?_)
            rw [hY]
            exact x_join () ⟨rfl, rfl, rfl, rfl, trivial⟩ trivial (fun w' hw' => hw')
        · have hn : kidN kind k = [] := by unfold kidN; rw [if_neg k3]
          (repeat first | with_reducible (first | apply t_seq | apply t_region | apply t_block | apply t_ret | apply t_skip | apply t_exit | apply l_nil | apply x_then | apply x_pass_exit | apply x_pass_ret | apply x_block_ret | apply x_block_normal | apply x_block_here | apply x_block_out rfl) | refine lAv rfl ?_ | refine l_no rfl ?_ | refine tT rfl rfl ?_ | refine tF rfl rfl ?_ | refine lT rfl rfl ?_ | refine lF rfl rfl ?_)
          exact x_join () ⟨rfl, by rw [hn, List.append_nil]; rfl, rfl, rfl, trivial⟩ trivial (fun w' hw' => hw')
      · obtain ⟨Y, hY⟩ : ∃ Y, X ++ kidN kind k = Y := ⟨_, rfl⟩
        have hYl : Y.length ≤ 301000 := by
          rw [← hY, List.length_append]
          unfold kidN
          split
          · rw [List.length_cons, List.length_append, beN_length]; omega
          · simp; omega
        rw [hY] at hup2
        rw [hY]
        have hbl : (bytesV k.hash).length = 32 := by rw [bytesV_length, hk32]
        (repeat first | with_reducible (first | apply t_seq | apply t_region | apply t_block | apply t_ret | apply t_skip | apply t_exit | apply l_nil | apply x_then | apply x_pass_exit | apply x_pass_ret | apply x_block_ret | apply x_block_normal | apply x_block_here | apply x_block_out rfl) | refine lAv rfl ?_ | refine l_no rfl ?_ | refine tT rfl rfl ?_ | refine tF rfl rfl ?_ | refine lT rfl rfl ?_ | refine lF rfl rfl ?_)
        refine t_drawp (by kernel_rfl) ?_
        (repeat first | refine dAv [] rfl rfl rfl ?_ | refine dno [] rfl rfl rfl ?_ | refine dT [] rfl rfl rfl rfl ?_ | refine dF [] rfl rfl rfl rfl ?_)
        refine d_v [] rfl rfl (by kernel_rfl) (fun _ h => h) rfl rfl (v_slarr rfl rfl rfl rfl) ?_
        (repeat first | refine dAv [] rfl rfl rfl ?_ | refine dno [] rfl rfl rfl ?_ | refine dT [] rfl rfl rfl rfl ?_ | refine dF [] rfl rfl rfl rfl ?_)
        refine d_v [] rfl rfl (by kernel_rfl) (fun _ h => h) rfl rfl (v_bstr (bs := k.hash) rfl hk32.symm rfl rfl (fun w' hw' => .inr ⟨b5, 2, rfl, by have := kid_hash (rangeAt_pt (hw'.get (b := b5) (.head _))); rwa [hh32, Nat.zero_add] at this⟩)) ?_
        refine d_v [] rfl rfl (by kernel_rfl) (fun _ h => h) rfl rfl (v_addb rfl rfl (by omega)) ?_
        (repeat first | refine dAv [] rfl rfl rfl ?_ | refine dno [] rfl rfl rfl ?_ | refine dT [] rfl rfl rfl rfl ?_ | refine dF [] rfl rfl rfl rfl ?_)
        refine d_v [] rfl rfl (by kernel_rfl) (fun _ h => h) rfl rfl (v_loadp rfl rfl (.head _) (by rw [List.getElem?_toArray]; exact kid_34 k)) ?_
        (repeat first | refine dAv [8] rfl rfl rfl ?_ | refine dno [8] rfl rfl rfl ?_ | refine dT [8] rfl rfl rfl rfl ?_ | refine dF [8] rfl rfl rfl rfl ?_)
        refine d_v [8] rfl rfl (by kernel_rfl) (fun _ h => h) rfl rfl (v_loadp rfl rfl (.head _) (by rw [List.getElem?_toArray]; exact kid_35 k)) ?_
        (repeat first | refine dAv [8] rfl rfl rfl ?_ | refine dno [8] rfl rfl rfl ?_ | refine dT [8] rfl rfl rfl rfl ?_ | refine dF [8] rfl rfl rfl rfl ?_)
        refine d_opg 8 ⟨by kernel_rfl, by decide⟩ rfl rfl (o_pure rfl (by kernel_rfl) rfl (fun w1 hw1 => num12_calls 1 k.height (.inl rfl) (by omega) w1)) (fun _ _ h => h) fun _ => ?_
        refine d_v [] rfl rfl (by kernel_rfl) (fun _ h => h) rfl rfl (v_addb rfl rfl (by simp only [List.length_append, beN_length]; omega)) ?_
        (repeat first | refine dAv [] rfl rfl rfl ?_ | refine dno [] rfl rfl rfl ?_ | refine dT [] rfl rfl rfl rfl ?_ | refine dF [] rfl rfl rfl rfl ?_)
        refine d_opg 13 ⟨by kernel_rfl, by decide⟩ rfl rfl (o_pure rfl (by kernel_rfl) rfl (fun w1 hw1 => num12_calls 4 k.size (.inr (.inr (.inl rfl))) (by omega) w1)) (fun _ _ h => h) fun _ => ?_
        refine d_v [] rfl rfl (by kernel_rfl) (fun _ h => h) rfl rfl (v_addb rfl rfl (by simp only [List.length_append, beN_length]; omega)) ?_
        (repeat first | refine dAv [] rfl rfl rfl ?_ | refine dno [] rfl rfl rfl ?_ | refine dT [] rfl rfl rfl rfl ?_ | refine dF [] rfl rfl rfl rfl ?_)
        refine d_end (by kernel_rfl) ?_
        (repeat first | with_reducible (first | apply t_seq | apply t_region | apply t_block | apply t_ret | apply t_skip | apply t_exit | apply l_nil | apply x_then | apply x_pass_exit | apply x_pass_ret | apply x_block_ret | apply x_block_normal | apply x_block_here | apply x_block_out rfl) | refine lAv rfl ?_ | refine l_no rfl ?_ | refine tT rfl rfl ?_ | refine tF rfl rfl ?_ | refine lT rfl rfl ?_ | refine lF rfl rfl ?_)
        rw [← hup2]
        exact x_round (i + 1) ⟨rfl, rfl, rfl, trivial⟩ hi2 (fun w' hw' => hw'.sub (.cons _ (.refl _))) (by omega)
    · obtain rfl : i = ks.length := by omega
      rw [List.take_length]
      (repeat first | with_reducible (first | apply t_seq | apply t_region | apply t_block | apply t_ret | apply t_skip | apply t_exit | apply l_nil | apply x_then | apply x_pass_exit | apply x_pass_ret | apply x_block_ret | apply x_block_normal | apply x_block_here | apply x_block_out rfl) | refine lAv rfl ?_ | refine l_no rfl ?_ | refine tT rfl rfl ?_ | refine tF rfl rfl ?_ | refine lT rfl rfl ?_ | refine lF rfl rfl ?_)
      exact x_pu rfl rfl rfl
end Go.Proofs.YtdkonngkbbgcgaaGreatDoor
