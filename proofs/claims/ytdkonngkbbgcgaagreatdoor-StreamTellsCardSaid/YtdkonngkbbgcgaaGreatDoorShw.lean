/- package sha: turning bits; the words of the rounds. -/
import Derived.Test.YtdkonngkbbgcgaaGreatDoorCrw
namespace Go.Proofs.YtdkonngkbbgcgaaGreatDoor
open Go.RowKit Go.Eng
set_option maxRecDepth 100000
set_option maxHeartbeats 40000000
theorem v_negI {P : Program} {l : Slots} {H : World → Prop} {x : Operand} {t ty : TypeId} {a : Int} (hx : evO l x = some (.int .i64 a)) (ha : -9223372036854775808 < a ∧ a < 9223372036854775808) : OV P (.unOp .neg t x) ty l H (.int .i64 (-a)) := ov fun _ _ _ w _ => by
  have e : (Op.unary .neg (.int .i64 a) : Sem Value).run P w = .ok (.int .i64 (-a)) w := by
    show Result.ok (Value.int .i64 (IntKind.i64.wrap (0 - a))) w = _
    rw [Int.zero_sub, i64_in (-a) (by omega) (by omega)]
  simp only [execOp, ev_of hx, Sem.run_bind, e]; rfl
theorem v_cvNeg {P : Program} {l : Slots} {H : World → Prop} {S T ty : TypeId} {x : Operand} {k : IntKind} {n : Nat} (hx : evO l x = some (.int k (-(n : Int)))) (hS : (P.underlying S).isSome = true) (hT : intK P T = some .u64) (hn : 0 < n ∧ n < 18446744073709551616) : OV P (.convert S T x) ty l H (.int .u64 ((18446744073709551616 - n : Nat) : Int)) := ov fun _ _ _ w _ => by
  obtain ⟨u, hu⟩ := Option.isSome_iff_exists.1 hS
  have e : IntKind.u64.wrap (-(n : Int)) = ((18446744073709551616 - n : Nat) : Int) := by
    simp [IntKind.wrap, IntKind.bits, IntKind.signed]; omega
  simp only [execOp, ev_of hx, convert, Sem.run_bind, run_underlying hu w, run_underlying (intK_spec hT) w, Result.andThen_ok, Conv.intToInt, Sem.run_pure, e]
theorem rot_calls (x : W32) (n : Nat) (hn : 1 ≤ n ∧ n ≤ 31) (w : World) : Pu Tryz.prog 83 #[w32 x, .int .i64 (-(n : Int))] w (w32 (rotr x n)) := by
  refine pu_of [_, _] Tryz.func83 rfl rfl ?_
  simp only [argSlots, Nat.reduceAdd]
  (repeat first | with_reducible (first | apply t_seq | apply t_region | apply t_block | apply t_ret | apply t_skip | apply t_exit | apply l_nil | apply x_then | apply x_pass_exit | apply x_pass_ret | apply x_block_ret | apply x_block_normal | apply x_block_here | apply x_block_out rfl) | refine lWv rfl ?_ | refine l_no rfl ?_ | refine tT rfl rfl ?_ | refine tF rfl rfl ?_ | refine lT rfl rfl ?_ | refine lF rfl rfl ?_)
  refine l_w rfl (v_cvNeg rfl rfl rfl (by omega)) ?_
  (repeat first | with_reducible (first | apply t_seq | apply t_region | apply t_block | apply t_ret | apply t_skip | apply t_exit | apply l_nil | apply x_then | apply x_pass_exit | apply x_pass_ret | apply x_block_ret | apply x_block_normal | apply x_block_here | apply x_block_out rfl) | refine lWv rfl ?_ | refine l_no rfl ?_ | refine tT rfl rfl ?_ | refine tF rfl rfl ?_ | refine lT rfl rfl ?_ | refine lF rfl rfl ?_)
  have e : (18446744073709551616 - n) &&& 31 = 32 - n := by
    rw [Nat.and_two_pow_sub_one_eq_mod (18446744073709551616 - n) 5]; omega
  rw [e]
  (repeat first | with_reducible (first | apply t_seq | apply t_region | apply t_block | apply t_ret | apply t_skip | apply t_exit | apply l_nil | apply x_then | apply x_pass_exit | apply x_pass_ret | apply x_block_ret | apply x_block_normal | apply x_block_here | apply x_block_out rfl) | refine lWv rfl ?_ | refine l_no rfl ?_ | refine tT rfl rfl ?_ | refine tF rfl rfl ?_ | refine lT rfl rfl ?_ | refine lF rfl rfl ?_)
  have e2 : 32 - (32 - n) = n := by omega
  rw [e2, BitVec.or_comm]
  exact x_pu rfl rfl rfl
theorem right_calls (x : W32) (n : Nat) (hn : 1 ≤ n ∧ n ≤ 31) (w : World) : Pu Tryz.prog 72 #[w32 x, .int .i64 n] w (w32 (rotr x n)) := by
  refine pu_of [_, _] Tryz.func72 rfl rfl ?_
  simp only [argSlots, Nat.reduceAdd]
  (repeat first | with_reducible (first | apply t_seq | apply t_region | apply t_block | apply t_ret | apply t_skip | apply t_exit | apply l_nil | apply x_then | apply x_pass_exit | apply x_pass_ret | apply x_block_ret | apply x_block_normal | apply x_block_here | apply x_block_out rfl) | refine lWv rfl ?_ | refine l_no rfl ?_ | refine tT rfl rfl ?_ | refine tF rfl rfl ?_ | refine lT rfl rfl ?_ | refine lF rfl rfl ?_)
  refine l_w rfl (v_negI rfl (by omega)) ?_
  refine l_opg rfl (o_pure rfl (by kernel_rfl) rfl (fun w1 hw1 => rot_calls x n hn w1)) fun _ => ?_
  (repeat first | with_reducible (first | apply t_seq | apply t_region | apply t_block | apply t_ret | apply t_skip | apply t_exit | apply l_nil | apply x_then | apply x_pass_exit | apply x_pass_ret | apply x_block_ret | apply x_block_normal | apply x_block_here | apply x_block_out rfl) | refine lWv rfl ?_ | refine l_no rfl ?_ | refine tT rfl rfl ?_ | refine tF rfl rfl ?_ | refine lT rfl rfl ?_ | refine lF rfl rfl ?_)
  exact x_pu rfl rfl rfl
/-- The ring in memory. -/
abbrev ringI (r : Nat) (m : Nat → W32) (n : Nat) : Eng.Item := pt r (.cells ((ring m n).map w32).toArray 123 (0, 0))
theorem ring_cell (m : Nat → W32) (n : Nat) {j : Nat} (hj : j < 16) : (((ring m n).map w32).toArray)[j]? = some (w32 (sched m (ringIx n j))) := by
  rw [List.getElem?_toArray, List.getElem?_map, ring_get m n hj]; rfl
theorem next_calls (r : Nat) (m : Nat → W32) (n : Nat) (hn : n < 64) (w : World) (hw : ∀ it ∈ [ringI r m n], Here it w) :
    Ct Tryz.prog 71 #[.int .i64 n, .pointer (some ⟨r, 0, none⟩)] w (foots [ringI r m n]) (fun _ : Unit => w32 (sched m n)) (fun _ => True) (fun _ => [ringI r m (n + 1)]) := by
  refine cu_of [_, _] _ Tryz.func71 rfl rfl hw (.cons (fun _ h => nomatch h) .nil) ?_
  simp only [argSlots, Nat.reduceAdd]
  by_cases h : n < 16
  · have e1 : n % 16 = n := by omega
    have e2 : ring m (n + 1) = ring m n := by rw [ring_low m (by omega), ring_low m (by omega)]
    have hc := ring_cell m n h
    rw [ringIx_low (by omega) h] at hc
    (repeat first | with_reducible (first | apply t_seq | apply t_region | apply t_block | apply t_ret | apply t_skip | apply t_exit | apply l_nil | apply x_then | apply x_pass_exit | apply x_pass_ret | apply x_block_ret | apply x_block_normal | apply x_block_here | apply x_block_out rfl) | refine lWv rfl ?_ | refine l_no rfl ?_ | refine tT rfl rfl ?_ | refine tF rfl rfl ?_ | refine lT rfl rfl ?_ | refine lF rfl rfl ?_)
    rw [e1]
    (repeat first | with_reducible (first | apply t_seq | apply t_region | apply t_block | apply t_ret | apply t_skip | apply t_exit | apply l_nil | apply x_then | apply x_pass_exit | apply x_pass_ret | apply x_block_ret | apply x_block_normal | apply x_block_here | apply x_block_out rfl) | refine lWv rfl ?_ | refine l_no rfl ?_ | refine tT rfl rfl ?_ | refine tF rfl rfl ?_ | refine lT rfl rfl ?_ | refine lF rfl rfl ?_)
    refine l_w rfl (v_loadp rfl rfl (.head _) (by rw [Nat.zero_add]; exact hc)) ?_
    (repeat first | with_reducible (first | apply t_seq | apply t_region | apply t_block | apply t_ret | apply t_skip | apply t_exit | apply l_nil | apply x_then | apply x_pass_exit | apply x_pass_ret | apply x_block_ret | apply x_block_normal | apply x_block_here | apply x_block_out rfl) | refine lWv rfl ?_ | refine l_no rfl ?_ | refine tT rfl rfl ?_ | refine tF rfl rfl ?_ | refine lT rfl rfl ?_ | refine lF rfl rfl ?_)
    have e3 : ringI r m (n + 1) = ringI r m n := by unfold ringI; rw [e2]
    rw [e3]
    exact x_ct () rfl rfl rfl trivial (.refl _) (by simp [pt_stable])
  · have h16 : 16 ≤ n := by omega
    have c0 := ring_cell m n (j := n % 16) (by omega)
    have c1 := ring_cell m n (j := (n + 1) % 16) (by omega)
    have c9 := ring_cell m n (j := (n + 9) % 16) (by omega)
    have c14 := ring_cell m n (j := (n + 14) % 16) (by omega)
    have hwd := ring_word m h16
    have hup := ring_up m h16
    (repeat first | with_reducible (first | apply t_seq | apply t_region | apply t_block | apply t_ret | apply t_skip | apply t_exit | apply l_nil | apply x_then | apply x_pass_exit | apply x_pass_ret | apply x_block_ret | apply x_block_normal | apply x_block_here | apply x_block_out rfl) | refine lWv rfl ?_ | refine l_no rfl ?_ | refine tT rfl rfl ?_ | refine tF rfl rfl ?_ | refine lT rfl rfl ?_ | refine lF rfl rfl ?_)
    refine t_drawp (by kernel_rfl) ?_
    (repeat first | refine dWv [] rfl rfl rfl ?_ | refine dno [] rfl rfl rfl ?_ | refine dT [] rfl rfl rfl rfl ?_ | refine dF [] rfl rfl rfl rfl ?_)
    refine d_v [] rfl rfl (by kernel_rfl) (fun _ h => h) rfl rfl (v_loadp rfl rfl (.head _) (by rw [Nat.zero_add]; exact c1)) ?_
    (repeat first | refine dWv [] rfl rfl rfl ?_ | refine dno [] rfl rfl rfl ?_ | refine dT [] rfl rfl rfl rfl ?_ | refine dF [] rfl rfl rfl rfl ?_)
    refine d_v [] rfl rfl (by kernel_rfl) (fun _ h => h) rfl rfl (v_loadp rfl rfl (.head _) (by rw [Nat.zero_add]; exact c14)) ?_
    (repeat first | refine dWv [] rfl rfl rfl ?_ | refine dno [] rfl rfl rfl ?_ | refine dT [] rfl rfl rfl rfl ?_ | refine dF [] rfl rfl rfl rfl ?_)
    refine d_end (by kernel_rfl) ?_
    (repeat first | with_reducible (first | apply t_seq | apply t_region | apply t_block | apply t_ret | apply t_skip | apply t_exit | apply l_nil | apply x_then | apply x_pass_exit | apply x_pass_ret | apply x_block_ret | apply x_block_normal | apply x_block_here | apply x_block_out rfl) | refine lWv rfl ?_ | refine l_no rfl ?_ | refine tT rfl rfl ?_ | refine tF rfl rfl ?_ | refine lT rfl rfl ?_ | refine lF rfl rfl ?_)
    refine l_opg rfl (o_pure rfl (by kernel_rfl) rfl (fun w1 hw1 => right_calls _ 7 (by decide) w1)) fun _ => ?_
    (repeat first | with_reducible (first | apply t_seq | apply t_region | apply t_block | apply t_ret | apply t_skip | apply t_exit | apply l_nil | apply x_then | apply x_pass_exit | apply x_pass_ret | apply x_block_ret | apply x_block_normal | apply x_block_here | apply x_block_out rfl) | refine lWv rfl ?_ | refine l_no rfl ?_ | refine tT rfl rfl ?_ | refine tF rfl rfl ?_ | refine lT rfl rfl ?_ | refine lF rfl rfl ?_)
    refine l_opg rfl (o_pure rfl (by kernel_rfl) rfl (fun w1 hw1 => right_calls _ 18 (by decide) w1)) fun _ => ?_
    (repeat first | with_reducible (first | apply t_seq | apply t_region | apply t_block | apply t_ret | apply t_skip | apply t_exit | apply l_nil | apply x_then | apply x_pass_exit | apply x_pass_ret | apply x_block_ret | apply x_block_normal | apply x_block_here | apply x_block_out rfl) | refine lWv rfl ?_ | refine l_no rfl ?_ | refine tT rfl rfl ?_ | refine tF rfl rfl ?_ | refine lT rfl rfl ?_ | refine lF rfl rfl ?_)
    refine l_opg rfl (o_pure rfl (by kernel_rfl) rfl (fun w1 hw1 => right_calls _ 17 (by decide) w1)) fun _ => ?_
    (repeat first | with_reducible (first | apply t_seq | apply t_region | apply t_block | apply t_ret | apply t_skip | apply t_exit | apply l_nil | apply x_then | apply x_pass_exit | apply x_pass_ret | apply x_block_ret | apply x_block_normal | apply x_block_here | apply x_block_out rfl) | refine lWv rfl ?_ | refine l_no rfl ?_ | refine tT rfl rfl ?_ | refine tF rfl rfl ?_ | refine lT rfl rfl ?_ | refine lF rfl rfl ?_)
    refine l_opg rfl (o_pure rfl (by kernel_rfl) rfl (fun w1 hw1 => right_calls _ 19 (by decide) w1)) fun _ => ?_
    (repeat first | with_reducible (first | apply t_seq | apply t_region | apply t_block | apply t_ret | apply t_skip | apply t_exit | apply l_nil | apply x_then | apply x_pass_exit | apply x_pass_ret | apply x_block_ret | apply x_block_normal | apply x_block_here | apply x_block_out rfl) | refine lWv rfl ?_ | refine l_no rfl ?_ | refine tT rfl rfl ?_ | refine tF rfl rfl ?_ | refine lT rfl rfl ?_ | refine lF rfl rfl ?_)
    refine t_drawm [0] 14 rfl rfl (by kernel_rfl) ?_
    (repeat first | refine dWv [] rfl rfl rfl ?_ | refine dno [] rfl rfl rfl ?_ | refine dT [] rfl rfl rfl rfl ?_ | refine dF [] rfl rfl rfl rfl ?_)
    refine d_v [] rfl rfl (by kernel_rfl) (fun _ h => h) rfl rfl (v_loadp rfl rfl (.head _) (by rw [Nat.zero_add]; exact c0)) ?_
    (repeat first | refine dWv [] rfl rfl rfl ?_ | refine dno [] rfl rfl rfl ?_ | refine dT [] rfl rfl rfl rfl ?_ | refine dF [] rfl rfl rfl rfl ?_)
    refine d_v [] rfl rfl (by kernel_rfl) (fun _ h => h) rfl rfl (v_loadp rfl rfl (.head _) (by rw [Nat.zero_add]; exact c9)) ?_
    (repeat first | refine dWv [] rfl rfl rfl ?_ | refine dno [] rfl rfl rfl ?_ | refine dT [] rfl rfl rfl rfl ?_ | refine dF [] rfl rfl rfl rfl ?_)
    refine d_tail ⟨by kernel_rfl, by kernel_rfl⟩ rfl rfl (o_store1 rfl rfl rfl rfl rfl rfl (by simp [ring_length]; omega)) fun _ => ?_
    have hcl : (((ring m n).map w32).toArray.setIfInBounds (0 + n % 16) (w32 (sched m n))) = ((ring m (n + 1)).map w32).toArray := by
      rw [hup, Nat.zero_add]
      apply Array.ext'
      simp [List.map_set]
    have hce := ring_cell m (n + 1) (j := n % 16) (by omega)
    rw [ringIx_next h16 (by omega), if_pos rfl] at hce
    refine x_imp (m' := [ringI r m (n + 1)]) (fun w hw => by unfold ringI; rw [← hcl, hwd]; exact hw) ?_
    (repeat first | with_reducible (first | apply t_seq | apply t_region | apply t_block | apply t_ret | apply t_skip | apply t_exit | apply l_nil | apply x_then | apply x_pass_exit | apply x_pass_ret | apply x_block_ret | apply x_block_normal | apply x_block_here | apply x_block_out rfl) | refine lWv rfl ?_ | refine l_no rfl ?_ | refine tT rfl rfl ?_ | refine tF rfl rfl ?_ | refine lT rfl rfl ?_ | refine lF rfl rfl ?_)
    refine l_w rfl (v_loadp rfl rfl (.head _) (by rw [Nat.zero_add]; exact hce)) ?_
    (repeat first | with_reducible (first | apply t_seq | apply t_region | apply t_block | apply t_ret | apply t_skip | apply t_exit | apply l_nil | apply x_then | apply x_pass_exit | apply x_pass_ret | apply x_block_ret | apply x_block_normal | apply x_block_here | apply x_block_out rfl) | refine lWv rfl ?_ | refine l_no rfl ?_ | refine tT rfl rfl ?_ | refine tF rfl rfl ?_ | refine lT rfl rfl ?_ | refine lF rfl rfl ?_)
    exact x_ct () rfl rfl rfl trivial (.refl _) (by simp [pt_stable])
end Go.Proofs.YtdkonngkbbgcgaaGreatDoor
