/- The document's constants (armariumref03): Tables. -/
import Derived.Test.YtdkonngkbbgcgaaGreatDoorRtk
namespace Go.Proofs.YtdkonngkbbgcgaaGreatDoor
open Go.RowKit Go.Eng
set_option maxRecDepth 100000
set_option maxHeartbeats 40000000
/-- Words of 32 bits as cells. -/
def u32V (l : List Nat) : List Value := l.map fun n : Nat => Value.int .u32 (n : Int)
theorem u32_set (l : List Nat) (i n : Nat) : (u32V l).toArray.setIfInBounds i (.int .u32 (n : Int)) = (u32V (l.set i n)).toArray := by
  rw [List.setIfInBounds_toArray]
  simp [u32V, List.map_set]
theorem u32V_len (l : List Nat) : (u32V l).length = l.length := by simp [u32V]
theorem u32_one (l : List Nat) : oneAll (u32V l) = true := by
  rw [oneAll_iff]
  intro v hv
  simp only [u32V, List.mem_map] at hv
  obtain ⟨n, -, rfl⟩ := hv
  rfl
/-- The table behind so many primes. -/
def tabS (i : Nat) : List Nat := (shaK.take i ++ List.replicate (64 - i) 0) ++ (shaH.take i ++ List.replicate (8 - i) 0)
def tabUp (i : Nat) : Bool := decide ((if i < 8 then ((tabS i).set i (shaK.getD i 0)).set (64 + i) (shaH.getD i 0) else (tabS i).set i (shaK.getD i 0)) = tabS (i + 1)) && decide ((tabS i).length = 72)
theorem tabUp_all {i : Nat} (h : i < 64) : tabUp i = true := by
  have : (List.range 64).all tabUp = true := by decide +kernel
  exact List.all_eq_true.1 this i (List.mem_range.2 h)
theorem tab_0 : tabS 0 = List.replicate 72 0 := by decide +kernel
theorem tab_64 : tabS 64 = shaK ++ shaH := by decide +kernel
theorem map_getD (f : Nat → Nat) {L M : List Nat} (e : L.map f = M) {i : Nat} (h : i < L.length) : f (L.getD i 0) = M.getD i 0 := by
  rw [← e]
  simp [List.getD_eq_getElem?_getD, h]
theorem root_at3 {i : Nat} (h : i < 64) : rootOf (primes.getD i 0) 3 = shaK.getD i 0 := map_getD (fun x => rootOf x 3) root_K (by rw [primes_len]; exact h)
theorem map_getD2 (f : Nat → Nat) {L M : List Nat} {k : Nat} (e : (L.take k).map f = M) {i : Nat} (h : i < L.length) (hk : i < k) : f (L.getD i 0) = M.getD i 0 := by
  rw [← e]
  simp [List.getD_eq_getElem?_getD, h, hk]
theorem root_at2 {i : Nat} (h : i < 8) : rootOf (primes.getD i 0) 2 = shaH.getD i 0 := map_getD2 (fun x => rootOf x 2) root_H (by rw [primes_len]; omega) h
theorem tables_calls (w : World) : Pu Tryz.prog 7 #[] w (.agg (u32V (shaK ++ shaH)).toArray) := by
  refine pu_of [] Tryz.func7 rfl rfl ?_
  simp only [argSlots]
  (repeat first | with_reducible (first | apply t_seq | apply t_region | apply t_block | apply t_ret | apply t_skip | apply t_exit | apply l_nil | apply x_then | apply x_pass_exit | apply x_pass_ret | apply x_block_ret | apply x_block_normal | apply x_block_here | apply x_block_out rfl) | refine lAv rfl ?_ | refine l_no rfl ?_ | refine tT rfl rfl ?_ | refine tF rfl rfl ?_ | refine lT rfl rfl ?_ | refine lF rfl rfl ?_)
  refine l_alloca rfl rfl fun b0 hb0 => ?_
  (repeat first | with_reducible (first | apply t_seq | apply t_region | apply t_block | apply t_ret | apply t_skip | apply t_exit | apply l_nil | apply x_then | apply x_pass_exit | apply x_pass_ret | apply x_block_ret | apply x_block_normal | apply x_block_here | apply x_block_out rfl) | refine lAv rfl ?_ | refine l_no rfl ?_ | refine tT rfl rfl ?_ | refine tF rfl rfl ?_ | refine lT rfl rfl ?_ | refine lF rfl rfl ?_)
  refine l_alloca rfl rfl fun b1 hb1 => ?_
  (repeat first | with_reducible (first | apply t_seq | apply t_region | apply t_block | apply t_ret | apply t_skip | apply t_exit | apply l_nil | apply x_then | apply x_pass_exit | apply x_pass_ret | apply x_block_ret | apply x_block_normal | apply x_block_here | apply x_block_out rfl) | refine lAv rfl ?_ | refine l_no rfl ?_ | refine tT rfl rfl ?_ | refine tF rfl rfl ?_ | refine lT rfl rfl ?_ | refine lF rfl rfl ?_)
  refine l_ctg rfl rfl (by kernel_rfl) rfl (fun w1 hw1 => primes_calls w1) fun x hx => ?_
  (repeat first | with_reducible (first | apply t_seq | apply t_region | apply t_block | apply t_ret | apply t_skip | apply t_exit | apply l_nil | apply x_then | apply x_pass_exit | apply x_pass_ret | apply x_block_ret | apply x_block_normal | apply x_block_here | apply x_block_out rfl) | refine lAv rfl ?_ | refine l_no rfl ?_ | refine tT rfl rfl ?_ | refine tF rfl rfl ?_ | refine lT rfl rfl ?_ | refine lF rfl rfl ?_)
  refine t_fact (fun w' hw' => own_val (hw'.item (own 57 1 x 64 (u64V primes)) (by simp)).1) fun ⟨hv, hc⟩ => ?_
  obtain ⟨pb, pc, rfl⟩ : ∃ b c, x = some (b, c) := by
    cases x with
    | none => rw [show slC none = 0 from rfl] at hc; omega
    | some bc => exact ⟨bc.1, bc.2, rfl⟩
  have hpl := primes_len
  have r3 := fun i (h : i < 64) => root_at3 h
  have r2 := fun i (h : i < 8) => root_at2 h
  have hpr : ∀ i, i < 64 → primes.getD i 0 < 65536 := fun i h => by
    have hl : i < primes.length := by rw [primes_len]; exact h
    have := primes_lt primes[i] (List.getElem_mem hl)
    rwa [List.getD_eq_getElem?_getD, List.getElem?_eq_getElem hl]
  generalize primes = L at hpl r3 r2 hpr ⊢
  refine t_for (α := Nat) (fun i => [(0, .pointer (some ⟨b0, 0, none⟩)), (1, .pointer (some ⟨b1, 0, none⟩)), (2, slV (some (pb, pc)) 64), (3, .int .i64 i)]) (fun i => i ≤ 64)
    (fun i => [pt b1 (.cells (u32V (tabS i)).toArray 33 (0, 0)), pt b0 (.cells (u32V (List.replicate 72 0)).toArray 33 (0, 0)), own 57 1 (some (pb, pc)) 64 (u64V L)]) (fun i => 64 - i) 0 ⟨rfl, rfl, rfl, rfl, trivial⟩ (Nat.zero_le _) (fun w' hw' => by
      rw [tab_0]
      exact hw'.pick [1, 2, 0] rfl rfl) fun i hi => ?_
  rw [hv]
  by_cases hi2 : i < 64
  · have hu := tabUp_all hi2
    unfold tabUp at hu
    rw [Bool.and_eq_true] at hu
    have hup := of_decide_eq_true hu.1
    have hlen := of_decide_eq_true hu.2
    clear hu
    have hat := u64_at L (i := i) (by omega)
    have h3 := r3 i hi2
    have h2 := r2 i
    have hpi := hpr i hi2
    generalize L.getD i 0 = p at hat h3 h2 hpi
    generalize tabS i = T at hup hlen ⊢
    have hsz : (u32V T).length = 72 := by rw [u32V_len, hlen]
    (repeat first | with_reducible (first | apply t_seq | apply t_region | apply t_block | apply t_ret | apply t_skip | apply t_exit | apply l_nil | apply x_then | apply x_pass_exit | apply x_pass_ret | apply x_block_ret | apply x_block_normal | apply x_block_here | apply x_block_out rfl) | refine lAv rfl ?_ | refine l_no rfl ?_ | refine tT rfl rfl ?_ | refine tF rfl rfl ?_ | refine lT rfl rfl ?_ | refine lF rfl rfl ?_)
    refine l_w rfl (v_load rfl rfl (fun w' hw' => by rw [Nat.zero_add]; exact own_rd (hw'.item _ (.tail _ (.tail _ (.head _)))).1 i _ (by simpa using hat))) ?_
    refine l_opg rfl (o_pure rfl (by kernel_rfl) rfl (fun w1 hw1 => root_calls p 3 hpi (by decide) w1)) fun _ => ?_
    rw [h3]
    generalize shaK.getD i 0 = s at hup
    (repeat first | with_reducible (first | apply t_seq | apply t_region | apply t_block | apply t_ret | apply t_skip | apply t_exit | apply l_nil | apply x_then | apply x_pass_exit | apply x_pass_ret | apply x_block_ret | apply x_block_normal | apply x_block_here | apply x_block_out rfl) | refine lAv rfl ?_ | refine l_no rfl ?_ | refine tT rfl rfl ?_ | refine tF rfl rfl ?_ | refine lT rfl rfl ?_ | refine lF rfl rfl ?_)
    refine l_op rfl (o_store1 rfl rfl rfl rfl rfl rfl (by rw [List.size_toArray, hsz]; omega)) fun _ => ?_
    rw [Nat.zero_add, u32_set]
    by_cases h8 : i < 8
    · rw [if_pos h8] at hup
      have h2' := h2 h8
      have hsz' : (u32V (T.set i s)).length = 72 := by rw [u32V_len, List.length_set, hlen]
      generalize T.set i s = T' at hup hsz' ⊢
      (repeat first | with_reducible (first | apply t_seq | apply t_region | apply t_block | apply t_ret | apply t_skip | apply t_exit | apply l_nil | apply x_then | apply x_pass_exit | apply x_pass_ret | apply x_block_ret | apply x_block_normal | apply x_block_here | apply x_block_out rfl) | refine lAv rfl ?_ | refine l_no rfl ?_ | refine tT rfl rfl ?_ | refine tF rfl rfl ?_ | refine lT rfl rfl ?_ | refine lF rfl rfl ?_)
      refine l_w rfl (v_load rfl rfl (fun w' hw' => by rw [Nat.zero_add]; exact own_rd (hw'.item _ (.tail _ (.tail _ (.head _)))).1 i _ (by simpa using hat))) ?_
      refine l_opg rfl (o_pure rfl (by kernel_rfl) rfl (fun w1 hw1 => root_calls p 2 hpi (by decide) w1)) fun _ => ?_
      rw [h2']
      generalize shaH.getD i 0 = s2 at hup
      (repeat first | with_reducible (first | apply t_seq | apply t_region | apply t_block | apply t_ret | apply t_skip | apply t_exit | apply l_nil | apply x_then | apply x_pass_exit | apply x_pass_ret | apply x_block_ret | apply x_block_normal | apply x_block_here | apply x_block_out rfl) | refine lAv rfl ?_ | refine l_no rfl ?_ | refine tT rfl rfl ?_ | refine tF rfl rfl ?_ | refine lT rfl rfl ?_ | refine lF rfl rfl ?_)
      refine l_op rfl (o_store1 rfl rfl rfl rfl rfl rfl (by rw [List.size_toArray, hsz']; omega)) fun _ => ?_
      rw [u32_set, hup]
      (repeat first | with_reducible (first | apply t_seq | apply t_region | apply t_block | apply t_ret | apply t_skip | apply t_exit | apply l_nil | apply x_then | apply x_pass_exit | apply x_pass_ret | apply x_block_ret | apply x_block_normal | apply x_block_here | apply x_block_out rfl) | refine lAv rfl ?_ | refine l_no rfl ?_ | refine tT rfl rfl ?_ | refine tF rfl rfl ?_ | refine lT rfl rfl ?_ | refine lF rfl rfl ?_)
      rw [← hv]
      exact x_round (i + 1) ⟨rfl, rfl, rfl, rfl, trivial⟩ hi2 (fun w' hw' => hw') (by omega)
    · rw [if_neg h8] at hup
      rw [hup]
      (repeat first | with_reducible (first | apply t_seq | apply t_region | apply t_block | apply t_ret | apply t_skip | apply t_exit | apply l_nil | apply x_then | apply x_pass_exit | apply x_pass_ret | apply x_block_ret | apply x_block_normal | apply x_block_here | apply x_block_out rfl) | refine lAv rfl ?_ | refine l_no rfl ?_ | refine tT rfl rfl ?_ | refine tF rfl rfl ?_ | refine lT rfl rfl ?_ | refine lF rfl rfl ?_)
      rw [← hv]
      exact x_round (i + 1) ⟨rfl, rfl, rfl, rfl, trivial⟩ hi2 (fun w' hw' => hw') (by omega)
  · obtain rfl : i = 64 := by omega
    have hsz : (u32V (tabS 64)).length = 72 := by rw [u32V_len, tab_64]; decide
    rw [tab_64] at hsz ⊢
    generalize shaK ++ shaH = T at hsz ⊢
    (repeat first | with_reducible (first | apply t_seq | apply t_region | apply t_block | apply t_ret | apply t_skip | apply t_exit | apply l_nil | apply x_then | apply x_pass_exit | apply x_pass_ret | apply x_block_ret | apply x_block_normal | apply x_block_here | apply x_block_out rfl) | refine lAv rfl ?_ | refine l_no rfl ?_ | refine tT rfl rfl ?_ | refine tF rfl rfl ?_ | refine lT rfl rfl ?_ | refine lF rfl rfl ?_)
    refine l_w rfl (v_loada rfl (by rw [List.size_toArray, hsz]; rfl) (.head _)) ?_
    refine l_op rfl (ho_perm (bring1 _ _ _) (o_storea (cs' := (u32V T).toArray) rfl rfl rfl (by rw [List.size_toArray, hsz]; rfl) (u32_one _) (by rw [List.size_toArray, hsz]; rfl))) fun _ => ?_
    (repeat first | with_reducible (first | apply t_seq | apply t_region | apply t_block | apply t_ret | apply t_skip | apply t_exit | apply l_nil | apply x_then | apply x_pass_exit | apply x_pass_ret | apply x_block_ret | apply x_block_normal | apply x_block_here | apply x_block_out rfl) | refine lAv rfl ?_ | refine l_no rfl ?_ | refine tT rfl rfl ?_ | refine tF rfl rfl ?_ | refine lT rfl rfl ?_ | refine lF rfl rfl ?_)
    exact x_pu rfl ⟨_, rfl, loada_run (by rw [List.size_toArray, hsz]; rfl) (.head _)⟩ rfl
end Go.Proofs.YtdkonngkbbgcgaaGreatDoor
