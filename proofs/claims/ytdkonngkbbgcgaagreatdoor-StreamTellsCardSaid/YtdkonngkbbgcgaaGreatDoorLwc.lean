/- law 33: StreamBack is true at every input. -/
import Derived.Test.YtdkonngkbbgcgaaGreatDoorLwb
namespace Go.Eng
open Go.RowKit
theorem v_xorB {P : Program} {l : Slots} {H : World → Prop} {x y : Operand} {xt yt ty : TypeId} {a b : UInt8} (hx : evO l x = some (.int .u8 (a.toNat : Int))) (hy : evO l y = some (.int .u8 (b.toNat : Int))) : OV P (.binOp .xor xt x y yt) ty l H (.int .u8 ((a ^^^ b).toNat : Int)) :=
  v_as (v_bin hx hy fun _ => rfl) (by
    show Value.int .u8 (IntKind.u8.wrap ((BitVec.ofInt 8 a.toNat ^^^ BitVec.ofInt 8 b.toNat).toNat)) = _
    have ha := a.toNat_lt
    have hb := b.toNat_lt
    have h1 : a.toNat % 2 ^ 8 = a.toNat := Nat.mod_eq_of_lt ha
    have h2 : b.toNat % 2 ^ 8 = b.toNat := Nat.mod_eq_of_lt hb
    rw [ofInt_nat, ofInt_nat, u8_wrap_nat, BitVec.toNat_xor, BitVec.toNat_ofNat, BitVec.toNat_ofNat, h1, h2, Nat.mod_eq_of_lt (show a.toNat ^^^ b.toNat < 256 from Nat.xor_lt_two_pow (n := 8) ha hb), UInt8.toNat_xor])
end Go.Eng
namespace Go.Proofs.YtdkonngkbbgcgaaGreatDoor
open Go.RowKit Go.Eng
set_option maxRecDepth 100000
set_option maxHeartbeats 40000000
theorem great_not {l : List Bys} (h : greatS l = false) : l.length ≤ 60 ∧ ∀ x ∈ l, x.length ≤ 400 := by
  unfold greatS at h
  rw [Bool.or_eq_false_iff] at h
  refine ⟨by have := h.1; simp at this; omega, fun x hx => ?_⟩
  have := List.any_eq_false.1 h.2 x hx
  simp at this
  omega
theorem put_size {x : Strm} (hr : x.root.length = 32) : (putF x).length = 42 + (chP x.chunks).length := by
  simp only [putF, bodyF, List.length_append, sum_length, beN_length, magicL, List.length_cons, List.length_nil, hr]
  omega
theorem xor_self_iff (a c : UInt8) : a ^^^ c = a ↔ c = 0 := by
  constructor
  · intro h
    have := congrArg (a ^^^ ·) h
    simpa [← UInt8.xor_assoc] using this
  · rintro rfl; simp
theorem chP_400 (l : List Bys) (h : ∀ x ∈ l, x.length ≤ 400) : (chP l).length ≤ 402 * l.length := by
  induction l with
  | nil => simp [chP]
  | cons x l ih =>
    have e : (chP (x :: l)).length = 2 + x.length + (chP l).length := by simp [chP, beN_length, Nat.add_assoc]
    have h1 := h x (by simp)
    have h2 := ih fun q hq => h q (by simp [hq])
    rw [e, List.length_cons]; omega
theorem strRow_set {w : World} {e : TypeId} {s : List UInt8} {b c i : Nat} {d : UInt8} {f : Nat × Nat} (hi : i < s.length) (h : (pt b (.cells ((bytesV s ++ List.replicate (c - s.length) (Value.int .u8 0)).toArray.setIfInBounds (0 + i) (.int .u8 (d.toNat : Int))) e f)).prop w) : w.rangeAt b 0 (bytesV (s.set i d)) := fun j v hj => by
  have he : (bytesV s ++ List.replicate (c - s.length) (Value.int .u8 0)).toArray.setIfInBounds i (.int .u8 (d.toNat : Int)) = (bytesV (s.set i d) ++ List.replicate (c - s.length) (Value.int .u8 0)).toArray := by
    rw [List.setIfInBounds_toArray, List.set_append_left _ _ (by rw [bytesV_length]; exact hi)]
    congr 2
    simp [bytesV, List.map_set]
  rw [Nat.zero_add, he] at h
  refine rangeAt_pt h j v ?_
  rw [List.getElem?_append_left (List.getElem?_eq_some_iff.1 hj).1]; exact hj
theorem back_calls (r : Bys) (l : List Bys) (a : Option Addr) (c : Nat) (b : Bys) (at_ : Nat) (ch : UInt8) (hr : r.length = 32) (hl : l.length ≤ 9223372036854775807) (hb63 : b.length ≤ 9223372036854775807) (hat : at_ < 65536) (w : World) (hA : StrL w a c (bas l)) (ht : Tabs w) :
    Pu Tryz.prog 4 #[.agg (strmA r a l.length c), .string ⟨b.toArray⟩, .int .u16 at_, .int .u8 (ch.toNat : Int)] w (.bool true) := by
  refine pu_of [_, _, _, _] Tryz.func4 rfl rfl ?_
  simp only [argSlots, Nat.reduceAdd]
  have hbl := ba_len b
  (repeat first | with_reducible (first | apply t_seq | apply t_region | apply t_block | apply t_ret | apply t_skip | apply t_exit | apply l_nil | apply x_then | apply x_pass_exit | apply x_pass_ret | apply x_block_ret | apply x_block_normal | apply x_block_here | apply x_block_out rfl) | refine lAv rfl ?_ | refine l_no rfl ?_ | refine tT rfl rfl ?_ | refine tF rfl rfl ?_ | refine lT rfl rfl ?_ | refine lF rfl rfl ?_)
  refine l_boxa rfl rfl fun b4 hb4 => ?_
  (repeat first | with_reducible (first | apply t_seq | apply t_region | apply t_block | apply t_ret | apply t_skip | apply t_exit | apply l_nil | apply x_then | apply x_pass_exit | apply x_pass_ret | apply x_block_ret | apply x_block_normal | apply x_block_here | apply x_block_out rfl) | refine lAv rfl ?_ | refine l_no rfl ?_ | refine tT rfl rfl ?_ | refine tF rfl rfl ?_ | refine lT rfl rfl ?_ | refine lF rfl rfl ?_)
  refine l_w rfl (v_loada rfl (by rw [strm_size r hr]; rfl) (.head _)) ?_
  refine l_opg rfl (o_pure rfl (by kernel_rfl) rfl (fun w1 hw1 => great33_calls r l a c hr hl w1 (hA.keep hw1))) fun _ => ?_
  by_cases hG : greatS l = true
  · rw [hG]
    (repeat first | with_reducible (first | apply t_seq | apply t_region | apply t_block | apply t_ret | apply t_skip | apply t_exit | apply l_nil | apply x_then | apply x_pass_exit | apply x_pass_ret | apply x_block_ret | apply x_block_normal | apply x_block_here | apply x_block_out rfl) | refine lAv rfl ?_ | refine l_no rfl ?_ | refine tT rfl rfl ?_ | refine tF rfl rfl ?_ | refine lT rfl rfl ?_ | refine lF rfl rfl ?_)
    refine l_opg rfl (o_pure rfl (by kernel_rfl) rfl (fun w1 hw1 => wakes33_calls w1 (ht.keep hw1))) fun _ => ?_
    (repeat first | with_reducible (first | apply t_seq | apply t_region | apply t_block | apply t_ret | apply t_skip | apply t_exit | apply l_nil | apply x_then | apply x_pass_exit | apply x_pass_ret | apply x_block_ret | apply x_block_normal | apply x_block_here | apply x_block_out rfl) | refine lAv rfl ?_ | refine l_no rfl ?_ | refine tT rfl rfl ?_ | refine tF rfl rfl ?_ | refine lT rfl rfl ?_ | refine lF rfl rfl ?_)
    exact x_pu rfl rfl rfl
  · rw [Bool.not_eq_true] at hG
    rw [hG]
    by_cases hB : 5000 < b.length
    · (repeat first | with_reducible (first | apply t_seq | apply t_region | apply t_block | apply t_ret | apply t_skip | apply t_exit | apply l_nil | apply x_then | apply x_pass_exit | apply x_pass_ret | apply x_block_ret | apply x_block_normal | apply x_block_here | apply x_block_out rfl) | refine lAv rfl ?_ | refine l_no rfl ?_ | refine tT rfl rfl ?_ | refine tF rfl rfl ?_ | refine lT rfl rfl ?_ | refine lF rfl rfl ?_)
      refine l_opg rfl (o_pure rfl (by kernel_rfl) rfl (fun w1 hw1 => wakes33_calls w1 (ht.keep hw1))) fun _ => ?_
      (repeat first | with_reducible (first | apply t_seq | apply t_region | apply t_block | apply t_ret | apply t_skip | apply t_exit | apply l_nil | apply x_then | apply x_pass_exit | apply x_pass_ret | apply x_block_ret | apply x_block_normal | apply x_block_here | apply x_block_out rfl) | refine lAv rfl ?_ | refine l_no rfl ?_ | refine tT rfl rfl ?_ | refine tF rfl rfl ?_ | refine lT rfl rfl ?_ | refine lF rfl rfl ?_)
      exact x_pu rfl rfl rfl
    · obtain ⟨hl60, hl400⟩ := great_not hG
      have hs : ChL w a c l := ⟨hA, by omega, fun x hx => by have := hl400 x hx; omega⟩
      have hch := chP_400 l hl400
      have hps := put_size (x := ⟨r, l⟩) hr
      simp only at hps
      (repeat first | with_reducible (first | apply t_seq | apply t_region | apply t_block | apply t_ret | apply t_skip | apply t_exit | apply l_nil | apply x_then | apply x_pass_exit | apply x_pass_ret | apply x_block_ret | apply x_block_normal | apply x_block_here | apply x_block_out rfl) | refine lAv rfl ?_ | refine l_no rfl ?_ | refine tT rfl rfl ?_ | refine tF rfl rfl ?_ | refine lT rfl rfl ?_ | refine lF rfl rfl ?_)
      refine l_w rfl (v_loada rfl (by rw [strm_size r hr]; rfl) (.head _)) ?_
      refine l_opg rfl (o_pure rfl (by kernel_rfl) rfl (fun w1 hw1 => lof_calls r a l.length c hr w1)) fun _ => ?_
      refine l_opg rfl (o_pure rfl (by kernel_rfl) rfl (fun w1 hw1 => sput_calls r l a c hr w1 (hs.keep hw1) (ht.keep hw1))) fun _ => ?_
      obtain ⟨e, he⟩ : ∃ e, (if mayF ⟨r, l⟩ = true then 0 else 2 : Nat) = e := ⟨_, rfl⟩
      obtain ⟨p, hp⟩ : ∃ p, (if mayF ⟨r, l⟩ = true then putF ⟨r, l⟩ else []) = p := ⟨_, rfl⟩
      rw [he, hp]
      have hem : ((e : Int) == 0) = mayF ⟨r, l⟩ := by
        rw [← he]
        by_cases hm : mayF ⟨r, l⟩ = true
        · rw [if_pos hm, hm]; rfl
        · rw [if_neg hm, Bool.eq_false_iff.2 hm]; rfl
      (repeat first | with_reducible (first | apply t_seq | apply t_region | apply t_block | apply t_ret | apply t_skip | apply t_exit | apply l_nil | apply x_then | apply x_pass_exit | apply x_pass_ret | apply x_block_ret | apply x_block_normal | apply x_block_here | apply x_block_out rfl) | refine lAv rfl ?_ | refine l_no rfl ?_ | refine tT rfl rfl ?_ | refine tF rfl rfl ?_ | refine lT rfl rfl ?_ | refine lF rfl rfl ?_)
      refine l_w rfl (v_loada rfl (by rw [strm_size r hr]; rfl) (.head _)) ?_
      refine l_opg rfl (o_pure rfl (by kernel_rfl) rfl (fun w1 hw1 => lof_calls r a l.length c hr w1)) fun _ => ?_
      refine l_opg rfl (o_pure rfl (by kernel_rfl) rfl (fun w1 hw1 => smay_calls r l a c hr w1 (hs.keep hw1) (ht.keep hw1))) fun _ => ?_
      refine l_w rfl (v_neb rfl rfl rfl) ?_
      refine l_say 39 _ (.bool false) rfl (congrArg Value.bool (by rw [hem]; simp)) ?_
      (repeat first | with_reducible (first | apply t_seq | apply t_region | apply t_block | apply t_ret | apply t_skip | apply t_exit | apply l_nil | apply x_then | apply x_pass_exit | apply x_pass_ret | apply x_block_ret | apply x_block_normal | apply x_block_here | apply x_block_out rfl) | refine lAv rfl ?_ | refine l_no rfl ?_ | refine tT rfl rfl ?_ | refine tF rfl rfl ?_ | refine lT rfl rfl ?_ | refine lF rfl rfl ?_)
      refine t_join (w0 := w) (F := none') (α := Unit) (fun _ => [(1, .string ⟨b.toArray⟩)]) (fun _ => True) (fun _ => []) ?_ fun _ _ => ?_
      · by_cases hm : mayF ⟨r, l⟩ = true
        · rw [if_pos hm] at he hp
          subst he
          have hback := back_one hm hr (by simp only; omega) (fun x hx => by have := hl400 x hx; omega)
          have hchg := fun i (hi : i < (putF ⟨r, l⟩).length) d => back_change hm hr (by simp only; omega) (fun x hx => by have := hl400 x hx; omega) hi d
          rw [hp] at hback hchg hps
          have hpl := ba_len p
          (repeat first | with_reducible (first | apply t_seq | apply t_region | apply t_block | apply t_ret | apply t_skip | apply t_exit | apply l_nil | apply x_then | apply x_pass_exit | apply x_pass_ret | apply x_block_ret | apply x_block_normal | apply x_block_here | apply x_block_out rfl) | refine lAv rfl ?_ | refine l_no rfl ?_ | refine tT rfl rfl ?_ | refine tF rfl rfl ?_ | refine lT rfl rfl ?_ | refine lF rfl rfl ?_)
          refine l_ctg rfl rfl (by kernel_rfl) rfl (fun w1 hw1 => stake_calls p (by omega) w1 (ht.keep hw1)) fun x hx => ?_
          obtain ⟨o11, ho11⟩ : ∃ o, x = o := ⟨_, rfl⟩
          rw [ho11, hback]
          simp only [Option.getD_some]
          refine l_fact (fun w hw => (own_val (hw.item (own 9 1 o11 l.length (strs (bas l))) (by simp)).1)) fun ⟨hsl, hcap⟩ => ?_
          have hso : strmO r o11 l.length = strmA r (slA o11) l.length (slC o11) := by unfold strmO strmA; rw [hsl]
          rw [hso]
          (repeat first | with_reducible (first | apply t_seq | apply t_region | apply t_block | apply t_ret | apply t_skip | apply t_exit | apply l_nil | apply x_then | apply x_pass_exit | apply x_pass_ret | apply x_block_ret | apply x_block_normal | apply x_block_here | apply x_block_out rfl) | refine lAv rfl ?_ | refine l_no rfl ?_ | refine tT rfl rfl ?_ | refine tF rfl rfl ?_ | refine lT rfl rfl ?_ | refine lF rfl rfl ?_)
          refine l_alloca rfl rfl fun b11 hb11 => ?_
          refine l_op rfl (o_storea (cs' := strmA r (slA o11) l.length (slC o11)) rfl rfl rfl (by rw [strm_size _ hr]; rfl) (strm_one _ _ _ _) (by rw [strm_size _ hr]; rfl)) fun _ => ?_
          (repeat first | with_reducible (first | apply t_seq | apply t_region | apply t_block | apply t_ret | apply t_skip | apply t_exit | apply l_nil | apply x_then | apply x_pass_exit | apply x_pass_ret | apply x_block_ret | apply x_block_normal | apply x_block_here | apply x_block_out rfl) | refine lAv rfl ?_ | refine l_no rfl ?_ | refine tT rfl rfl ?_ | refine tF rfl rfl ?_ | refine lT rfl rfl ?_ | refine lF rfl rfl ?_)
          refine t_drawp (by kernel_rfl) ?_
          (repeat first | refine dAv [] rfl rfl rfl ?_ | refine dno [] rfl rfl rfl ?_ | refine dT [] rfl rfl rfl rfl ?_ | refine dF [] rfl rfl rfl rfl ?_)
          refine d_v [] rfl rfl (by kernel_rfl) (fun _ h => h) rfl rfl (v_loada rfl (by rw [strm_size r hr]; rfl) (.head _)) ?_
          (repeat first | refine dAv [] rfl rfl rfl ?_ | refine dno [] rfl rfl rfl ?_ | refine dT [] rfl rfl rfl rfl ?_ | refine dF [] rfl rfl rfl rfl ?_)
          refine d_v [] rfl rfl (by kernel_rfl) (fun _ h => h) rfl rfl (v_loada rfl (by rw [strm_size r hr]; rfl) (.tail _ (.tail _ (.head _)))) ?_
          (repeat first | refine dAv [] rfl rfl rfl ?_ | refine dno [] rfl rfl rfl ?_ | refine dT [] rfl rfl rfl rfl ?_ | refine dF [] rfl rfl rfl rfl ?_)
          refine d_opg 5 ⟨by kernel_rfl, by decide⟩ rfl rfl (o_pure rfl (by kernel_rfl) rfl (fun w1 hw1 => lof_calls r a l.length c hr w1)) (fun _ _ h => h) fun _ => ?_
          (repeat first | refine dAv [] rfl rfl rfl ?_ | refine dno [] rfl rfl rfl ?_ | refine dT [] rfl rfl rfl rfl ?_ | refine dF [] rfl rfl rfl rfl ?_)
          refine d_opg 6 ⟨by kernel_rfl, by decide⟩ rfl rfl (o_pure rfl (by kernel_rfl) rfl (fun w1 hw1 => same_calls r r l l (slA o11) a (slC o11) c hr hr w1 (own_ChL (hw1.item (own 9 1 o11 l.length (strs (bas l))) (by simp)).1 hs.many hs.long) (hs.keep hw1))) (fun _ _ h => h) fun _ => ?_
          rw [decide_eq_true (⟨rfl, rfl⟩ : r = r ∧ l = l)]
          (repeat first | refine dAv [] rfl rfl rfl ?_ | refine dno [] rfl rfl rfl ?_ | refine dT [] rfl rfl rfl rfl ?_ | refine dF [] rfl rfl rfl rfl ?_)
          refine d_end (by kernel_rfl) ?_
          (repeat first | with_reducible (first | apply t_seq | apply t_region | apply t_block | apply t_ret | apply t_skip | apply t_exit | apply l_nil | apply x_then | apply x_pass_exit | apply x_pass_ret | apply x_block_ret | apply x_block_normal | apply x_block_here | apply x_block_out rfl) | refine lAv rfl ?_ | refine l_no rfl ?_ | refine tT rfl rfl ?_ | refine tF rfl rfl ?_ | refine lT rfl rfl ?_ | refine lF rfl rfl ?_)
          refine l_op rfl (o_strb rfl rfl rfl rfl) fun ⟨p13, hp13, hq13⟩ => ?_
          (repeat first | with_reducible (first | apply t_seq | apply t_region | apply t_block | apply t_ret | apply t_skip | apply t_exit | apply l_nil | apply x_then | apply x_pass_exit | apply x_pass_ret | apply x_block_ret | apply x_block_normal | apply x_block_here | apply x_block_out rfl) | refine lAv rfl ?_ | refine l_no rfl ?_ | refine tT rfl rfl ?_ | refine tF rfl rfl ?_ | refine lT rfl rfl ?_ | refine lF rfl rfl ?_)
          have hmod : at_ % (⟨p.toArray⟩ : ByteArray).size < (⟨p.toArray⟩ : ByteArray).size := Nat.mod_lt _ (by omega)
          obtain ⟨i, hi⟩ : ∃ i, at_ % (⟨p.toArray⟩ : ByteArray).size = i := ⟨_, rfl⟩
          have hip : i < p.length := by omega
          have hci := hchg i hip
          refine t_pick [0] rfl rfl ?_
          refine t_drawm [0] 17 rfl rfl (by kernel_rfl) ?_
          (repeat first | refine dAv [] rfl rfl rfl ?_ | refine dno [] rfl rfl rfl ?_ | refine dT [] rfl rfl rfl rfl ?_ | refine dF [] rfl rfl rfl rfl ?_)
          rw [hi]
          refine d_v [] rfl rfl (by kernel_rfl) (fun _ h => by first | exact h | exact Hp.sub h (.cons _ (.refl _)) | exact Hp.sub h (.cons _ (.cons _ (.refl _))) | exact Hp.sub h (.cons _ (.cons _ (.cons _ (.refl _)))) | exact Hp.sub h (.cons _ (.cons _ (.cons _ (.cons _ (.refl _))))) | exact Hp.sub h (.cons _ (.cons _ (.cons _ (.cons _ (.cons _ (.refl _)))))) | exact Hp.sub h (.cons _ (.cons _ (.cons _ (.cons _ (.cons _ (.cons _ (.refl _)))))))) rfl rfl (v_load rfl rfl (fun w' hw' => (strRow_at (hw'.item _ (.head _)).1) i _ (bytesV_at hip))) ?_
          (repeat first | refine dAv [] rfl rfl rfl ?_ | refine dno [] rfl rfl rfl ?_ | refine dT [] rfl rfl rfl rfl ?_ | refine dF [] rfl rfl rfl rfl ?_)
          refine d_v [] rfl rfl (by kernel_rfl) (fun _ h => by first | exact h | exact Hp.sub h (.cons _ (.refl _)) | exact Hp.sub h (.cons _ (.cons _ (.refl _))) | exact Hp.sub h (.cons _ (.cons _ (.cons _ (.refl _)))) | exact Hp.sub h (.cons _ (.cons _ (.cons _ (.cons _ (.refl _))))) | exact Hp.sub h (.cons _ (.cons _ (.cons _ (.cons _ (.cons _ (.refl _)))))) | exact Hp.sub h (.cons _ (.cons _ (.cons _ (.cons _ (.cons _ (.cons _ (.refl _)))))))) rfl rfl (v_xorB rfl rfl) ?_
          (repeat first | refine dAv [] rfl rfl rfl ?_ | refine dno [] rfl rfl rfl ?_ | refine dT [] rfl rfl rfl rfl ?_ | refine dF [] rfl rfl rfl rfl ?_)
          refine d_tail ⟨by kernel_rfl, by kernel_rfl⟩ rfl rfl (o_storem rfl rfl rfl rfl rfl rfl (by simp only [List.size_toArray, List.length_append, bytesV_length]; omega) (by simp only at hq13 ⊢; omega)) fun _ => ?_
          (repeat first | with_reducible (first | apply t_seq | apply t_region | apply t_block | apply t_ret | apply t_skip | apply t_exit | apply l_nil | apply x_then | apply x_pass_exit | apply x_pass_ret | apply x_block_ret | apply x_block_normal | apply x_block_here | apply x_block_out rfl) | refine lAv rfl ?_ | refine l_no rfl ?_ | refine tT rfl rfl ?_ | refine tF rfl rfl ?_ | refine lT rfl rfl ?_ | refine lF rfl rfl ?_)
          refine l_w rfl (v_bstr (bs := p.set i (p[i] ^^^ ch)) rfl (by rw [List.length_set]; exact hpl) rfl rfl (fun w' hw' => .inr ⟨p13.1, 0, rfl, strRow_set hip (hw'.item _ (.head _)).1⟩)) ?_
          have hroot := takeF_root (p.set i (p[i] ^^^ ch))
          have hcq := (hci (p[i] ^^^ ch)).trans (xor_self_iff _ _)
          refine l_ctg rfl rfl (by kernel_rfl) rfl (fun w1 hw1 => stake_calls (p.set i (p[i] ^^^ ch)) (by rw [List.length_set]; omega) w1 (ht.keep hw1)) fun x hx => ?_
          generalize hq : takeF (p.set i (p[i] ^^^ ch)) = q at hroot hcq
          obtain ⟨o14, ho14⟩ : ∃ o, x = o := ⟨_, rfl⟩
          rw [ho14]
          (repeat first | with_reducible (first | apply t_seq | apply t_region | apply t_block | apply t_ret | apply t_skip | apply t_exit | apply l_nil | apply x_then | apply x_pass_exit | apply x_pass_ret | apply x_block_ret | apply x_block_normal | apply x_block_here | apply x_block_out rfl) | refine lAv rfl ?_ | refine l_no rfl ?_ | refine tT rfl rfl ?_ | refine tF rfl rfl ?_ | refine lT rfl rfl ?_ | refine lF rfl rfl ?_)
          refine l_alloca rfl rfl fun b14 hb14 => ?_
          refine l_op rfl (o_storea (cs' := strmO (q.1.getD noS).root o14 (q.1.getD noS).chunks.length) rfl rfl rfl (by rw [strmO_size _ hroot]; rfl) (strmO_one _ _ _) (by rw [strmO_size _ hroot]; rfl)) fun _ => ?_
          (repeat first | with_reducible (first | apply t_seq | apply t_region | apply t_block | apply t_ret | apply t_skip | apply t_exit | apply l_nil | apply x_then | apply x_pass_exit | apply x_pass_ret | apply x_block_ret | apply x_block_normal | apply x_block_here | apply x_block_out rfl) | refine lAv rfl ?_ | refine l_no rfl ?_ | refine tT rfl rfl ?_ | refine tF rfl rfl ?_ | refine lT rfl rfl ?_ | refine lF rfl rfl ?_)
          refine l_w rfl (v_neb rfl rfl rfl) ?_
          have hcc : ((q.2 : Int) == 0) = ((ch.toNat : Int) == 0) := by
            rw [Bool.eq_iff_iff, beq_iff_eq, beq_iff_eq]
            have h0 : ch = 0 ↔ ch.toNat = 0 := by rw [← UInt8.toNat_inj]; rfl
            rw [h0] at hcq
            omega
          refine l_say 85 _ (.bool false) rfl (congrArg Value.bool (by rw [hcc]; simp)) ?_
          (repeat first | with_reducible (first | apply t_seq | apply t_region | apply t_block | apply t_ret | apply t_skip | apply t_exit | apply l_nil | apply x_then | apply x_pass_exit | apply x_pass_ret | apply x_block_ret | apply x_block_normal | apply x_block_here | apply x_block_out rfl) | refine lAv rfl ?_ | refine l_no rfl ?_ | refine tT rfl rfl ?_ | refine tF rfl rfl ?_ | refine lT rfl rfl ?_ | refine lF rfl rfl ?_)
          exact x_join () ⟨rfl, trivial⟩ trivial (fun w' hw' => hw'.pick [] rfl rfl)
        · rw [if_neg hm] at he hp
          subst he
          (repeat first | with_reducible (first | apply t_seq | apply t_region | apply t_block | apply t_ret | apply t_skip | apply t_exit | apply l_nil | apply x_then | apply x_pass_exit | apply x_pass_ret | apply x_block_ret | apply x_block_normal | apply x_block_here | apply x_block_out rfl) | refine lAv rfl ?_ | refine l_no rfl ?_ | refine tT rfl rfl ?_ | refine tF rfl rfl ?_ | refine lT rfl rfl ?_ | refine lF rfl rfl ?_)
          exact x_join () ⟨rfl, trivial⟩ trivial (fun w' hw' => hw'.pick [] rfl rfl)
      · (repeat first | with_reducible (first | apply t_seq | apply t_region | apply t_block | apply t_ret | apply t_skip | apply t_exit | apply l_nil | apply x_then | apply x_pass_exit | apply x_pass_ret | apply x_block_ret | apply x_block_normal | apply x_block_here | apply x_block_out rfl) | refine lAv rfl ?_ | refine l_no rfl ?_ | refine tT rfl rfl ?_ | refine tF rfl rfl ?_ | refine lT rfl rfl ?_ | refine lF rfl rfl ?_)
        refine l_ctg rfl rfl (by kernel_rfl) rfl (fun w1 hw1 => stake_calls b (by omega) w1 (ht.keep hw1)) fun x hx => ?_
        obtain ⟨o16, ho16⟩ : ∃ o, x = o := ⟨_, rfl⟩
        rw [ho16]
        have hroot := takeF_root b
        by_cases hf : (takeF b).2 = 0
        · obtain ⟨y, hy, hym, hyp, hyd⟩ := take_ok hf
          rw [hy] at hroot ⊢
          simp only [Option.getD_some] at hroot ⊢
          have hyl := put_size hroot
          rw [hyp] at hyl
          have hcnt := chP_count y.chunks
          have hylong : ∀ x ∈ y.chunks, x.length ≤ 65535 := fun x hx => by have := chP_mem y.chunks x hx; omega
          obtain ⟨yr, yc⟩ := y
          simp only at hroot hyl hcnt hylong ⊢
          refine l_fact (fun w hw => (own_val (hw.item (own 9 1 o16 yc.length (strs (bas yc))) (by simp)).1)) fun ⟨hsl, hcap⟩ => ?_
          have hso : strmO yr o16 yc.length = strmA yr (slA o16) yc.length (slC o16) := by unfold strmO strmA; rw [hsl]
          rw [hso]
          (repeat first | with_reducible (first | apply t_seq | apply t_region | apply t_block | apply t_ret | apply t_skip | apply t_exit | apply l_nil | apply x_then | apply x_pass_exit | apply x_pass_ret | apply x_block_ret | apply x_block_normal | apply x_block_here | apply x_block_out rfl) | refine lAv rfl ?_ | refine l_no rfl ?_ | refine tT rfl rfl ?_ | refine tF rfl rfl ?_ | refine lT rfl rfl ?_ | refine lF rfl rfl ?_)
          refine l_alloca rfl rfl fun b16 hb16 => ?_
          refine l_op rfl (o_storea (cs' := strmA yr (slA o16) yc.length (slC o16)) rfl rfl rfl (by rw [strm_size _ hroot]; rfl) (strm_one _ _ _ _) (by rw [strm_size _ hroot]; rfl)) fun _ => ?_
          (repeat first | with_reducible (first | apply t_seq | apply t_region | apply t_block | apply t_ret | apply t_skip | apply t_exit | apply l_nil | apply x_then | apply x_pass_exit | apply x_pass_ret | apply x_block_ret | apply x_block_normal | apply x_block_here | apply x_block_out rfl) | refine lAv rfl ?_ | refine l_no rfl ?_ | refine tT rfl rfl ?_ | refine tF rfl rfl ?_ | refine lT rfl rfl ?_ | refine lF rfl rfl ?_)
          refine l_w rfl (v_loada rfl (by rw [strm_size _ hroot]; rfl) (.head _)) ?_
          refine l_opg rfl (o_pure rfl (by kernel_rfl) rfl (fun w1 hw1 => sput_calls yr yc (slA o16) (slC o16) hroot w1 (own_ChL (hw1.item (own 9 1 o16 yc.length (strs (bas yc))) (by simp)).1 (by omega) hylong) (ht.keep hw1))) fun _ => ?_
          rw [hym, if_pos rfl, if_pos rfl, hyp]
          (repeat first | with_reducible (first | apply t_seq | apply t_region | apply t_block | apply t_ret | apply t_skip | apply t_exit | apply l_nil | apply x_then | apply x_pass_exit | apply x_pass_ret | apply x_block_ret | apply x_block_normal | apply x_block_here | apply x_block_out rfl) | refine lAv rfl ?_ | refine l_no rfl ?_ | refine tT rfl rfl ?_ | refine tF rfl rfl ?_ | refine lT rfl rfl ?_ | refine lF rfl rfl ?_)
          refine l_say 110 _ (.bool true) rfl (congrArg Value.bool ((seq_ba b b).trans (decide_eq_true rfl))) ?_
          (repeat first | with_reducible (first | apply t_seq | apply t_region | apply t_block | apply t_ret | apply t_skip | apply t_exit | apply l_nil | apply x_then | apply x_pass_exit | apply x_pass_ret | apply x_block_ret | apply x_block_normal | apply x_block_here | apply x_block_out rfl) | refine lAv rfl ?_ | refine l_no rfl ?_ | refine tT rfl rfl ?_ | refine tF rfl rfl ?_ | refine lT rfl rfl ?_ | refine lF rfl rfl ?_)
          refine l_opg rfl (o_pure rfl (by kernel_rfl) rfl (fun w1 hw1 => wakes33_calls w1 (ht.keep hw1))) fun _ => ?_
          (repeat first | with_reducible (first | apply t_seq | apply t_region | apply t_block | apply t_ret | apply t_skip | apply t_exit | apply l_nil | apply x_then | apply x_pass_exit | apply x_pass_ret | apply x_block_ret | apply x_block_normal | apply x_block_here | apply x_block_out rfl) | refine lAv rfl ?_ | refine l_no rfl ?_ | refine tT rfl rfl ?_ | refine tF rfl rfl ?_ | refine lT rfl rfl ?_ | refine lF rfl rfl ?_)
          exact x_pu rfl rfl rfl
        · rw [take_none hf] at hroot ⊢
          simp only [Option.getD_none, noS, List.length_nil] at hroot ⊢
          (repeat first | with_reducible (first | apply t_seq | apply t_region | apply t_block | apply t_ret | apply t_skip | apply t_exit | apply l_nil | apply x_then | apply x_pass_exit | apply x_pass_ret | apply x_block_ret | apply x_block_normal | apply x_block_here | apply x_block_out rfl) | refine lAv rfl ?_ | refine l_no rfl ?_ | refine tT rfl rfl ?_ | refine tF rfl rfl ?_ | refine lT rfl rfl ?_ | refine lF rfl rfl ?_)
          refine l_alloca rfl rfl fun b16 hb16 => ?_
          refine l_fact (fun w hw => (own_val (hw.item (own 9 1 o16 0 (strs (bas []))) (by simp)).1)) fun ⟨hsl, hcap⟩ => ?_
          refine l_op rfl (o_storea (cs' := strmO (List.replicate 32 0) o16 0) rfl rfl rfl rfl (strmO_one _ _ _) rfl) fun _ => ?_
          (repeat first | with_reducible (first | apply t_seq | apply t_region | apply t_block | apply t_ret | apply t_skip | apply t_exit | apply l_nil | apply x_then | apply x_pass_exit | apply x_pass_ret | apply x_block_ret | apply x_block_normal | apply x_block_here | apply x_block_out rfl) | refine lAv rfl ?_ | refine l_no rfl ?_ | refine tT rfl rfl ?_ | refine tF rfl rfl ?_ | refine lT rfl rfl ?_ | refine lF rfl rfl ?_)
          refine l_say 94 _ (.slice (slA o16) 0 (slC o16)) rfl hsl ?_
          (repeat first | with_reducible (first | apply t_seq | apply t_region | apply t_block | apply t_ret | apply t_skip | apply t_exit | apply l_nil | apply x_then | apply x_pass_exit | apply x_pass_ret | apply x_block_ret | apply x_block_normal | apply x_block_here | apply x_block_out rfl) | refine lAv rfl ?_ | refine l_no rfl ?_ | refine tT rfl rfl ?_ | refine tF rfl rfl ?_ | refine lT rfl rfl ?_ | refine lF rfl rfl ?_)
          refine l_opg rfl (o_pure rfl (by kernel_rfl) rfl (fun w1 hw1 => wakes33_calls w1 (ht.keep hw1))) fun _ => ?_
          (repeat first | with_reducible (first | apply t_seq | apply t_region | apply t_block | apply t_ret | apply t_skip | apply t_exit | apply l_nil | apply x_then | apply x_pass_exit | apply x_pass_ret | apply x_block_ret | apply x_block_normal | apply x_block_here | apply x_block_out rfl) | refine lAv rfl ?_ | refine l_no rfl ?_ | refine tT rfl rfl ?_ | refine tF rfl rfl ?_ | refine lT rfl rfl ?_ | refine lF rfl rfl ?_)
          exact x_pu rfl rfl rfl
end Go.Proofs.YtdkonngkbbgcgaaGreatDoor
