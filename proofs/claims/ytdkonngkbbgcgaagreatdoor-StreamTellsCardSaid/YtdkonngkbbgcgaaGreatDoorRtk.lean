/- The document's constants (armariumref03): Primes, Tables. -/
import Derived.Test.YtdkonngkbbgcgaaGreatDoorRtj
namespace Go.Proofs.YtdkonngkbbgcgaaGreatDoor
open Go.RowKit Go.Eng
set_option maxRecDepth 100000
set_option maxHeartbeats 40000000
/-- The primes below a number. -/
def plow (n : Nat) : List Nat := primes.filter fun p => decide (p < n)
def pstep (n : Nat) : Bool := decide (plow (n + 1) = if (plow n).all (fun p => decide (n % p ≠ 0)) then plow n ++ [n] else plow n) && decide ((plow n).length < 64)
theorem pstep_all : ∀ n, n < 312 → 2 ≤ n → pstep n = true := by
  have : (List.range 312).all (fun n => decide (n < 2) || pstep n) = true := by decide +kernel
  intro n h1 h2
  have h := List.all_eq_true.1 this n (List.mem_range.2 h1)
  rw [Bool.or_eq_true] at h
  rcases h with h | h
  · have := of_decide_eq_true h; omega
  · exact h
theorem plow_2 : plow 2 = [] := by decide +kernel
theorem plow_312 : plow 312 = primes := by decide +kernel
theorem plow_pos {n : Nat} : ∀ p ∈ plow n, 0 < p := fun p hp => (by decide : ∀ p ∈ primes, 0 < p) p (List.mem_filter.1 hp).1
theorem primes_len : primes.length = 64 := by decide
theorem primes_calls (w : World) : Ct Tryz.prog 18 #[.int .i64 64] w none' (fun o : Option (Nat × Nat) => slV o 64) (fun _ => True) (fun o => [own 57 1 o 64 (u64V primes)]) := by
  refine ct_of [_] Tryz.func18 rfl rfl ?_
  simp only [argSlots]
  (repeat first | with_reducible (first | apply t_seq | apply t_region | apply t_block | apply t_ret | apply t_skip | apply t_exit | apply l_nil | apply x_then | apply x_pass_exit | apply x_pass_ret | apply x_block_ret | apply x_block_normal | apply x_block_here | apply x_block_out rfl) | refine lAv rfl ?_ | refine l_no rfl ?_ | refine tT rfl rfl ?_ | refine tF rfl rfl ?_ | refine lT rfl rfl ?_ | refine lF rfl rfl ?_)
  refine t_imp (m' := [own 57 1 none (plow 2).length (u64V (plow 2))]) (fun w' hw' => by rw [plow_2]; exact hp_nil1 _ _ hw') ?_
  refine t_for (α := Nat × Option (Nat × Nat)) (fun y => [(0, .int .i64 64), (3, slV y.2 (plow y.1).length), (4, .int .u64 (y.1 : Nat))]) (fun y => 2 ≤ y.1 ∧ y.1 ≤ 312)
    (fun y => [own 57 1 y.2 (plow y.1).length (u64V (plow y.1))]) (fun y => 312 - y.1) (2, none) ⟨rfl, by rw [plow_2]; rfl, rfl, trivial⟩ ⟨by decide, by decide⟩ (fun w' hw' => hw') fun ⟨n, o⟩ ⟨h1, h2⟩ => ?_
  simp only at h1 h2 ⊢
  by_cases hn : n < 312
  · have hst := pstep_all n hn h1
    unfold pstep at hst
    rw [Bool.and_eq_true] at hst
    have hup := of_decide_eq_true hst.1
    have hlen := of_decide_eq_true hst.2
    have hpos := plow_pos (n := n)
    clear hst
    generalize plow n = L at hup hlen hpos ⊢
    refine t_fact (fun w' hw' => own_val (hw'.item (own 57 1 o L.length (u64V L)) (by simp)).1) fun ⟨hv, hc⟩ => ?_
    rw [hv]
    (repeat first | with_reducible (first | apply t_seq | apply t_region | apply t_block | apply t_ret | apply t_skip | apply t_exit | apply l_nil | apply x_then | apply x_pass_exit | apply x_pass_ret | apply x_block_ret | apply x_block_normal | apply x_block_here | apply x_block_out rfl) | refine lAv rfl ?_ | refine l_no rfl ?_ | refine tT rfl rfl ?_ | refine tF rfl rfl ?_ | refine lT rfl rfl ?_ | refine lF rfl rfl ?_)
    refine t_for (α := Nat) (fun i => [(0, .int .i64 64), (3, .slice (slA o) L.length (slC o)), (4, .int .u64 (n : Nat)), (5, .bool ((L.take i).all fun p => decide (n % p ≠ 0))), (6, .int .i64 i)]) (fun i => i ≤ L.length)
      (fun _ => [own 57 1 o L.length (u64V L)]) (fun i => L.length - i) 0 ⟨rfl, rfl, rfl, rfl, rfl, trivial⟩ (Nat.zero_le _) (fun w' hw' => hw') fun i hi => ?_
    by_cases hi2 : i < L.length
    · have hall : (L.take (i + 1)).all (fun p => decide (n % p ≠ 0)) = ((L.take i).all (fun p => decide (n % p ≠ 0)) && decide (n % L[i] ≠ 0)) := by
        rw [List.take_succ_eq_append_getElem hi2, List.all_append]; simp
      have hp0 := hpos L[i] (List.getElem_mem hi2)
      have hat : (u64V L)[i]? = some (.int .u64 (L[i] : Nat)) := by simp [u64V, hi2]
      generalize L[i] = p at hall hp0 hat
      obtain ⟨b, c, rfl⟩ : ∃ b c, o = some (b, c) := by
        cases o with
        | none => rw [show slC none = 0 from rfl] at hc; omega
        | some bc => exact ⟨bc.1, bc.2, rfl⟩
      cases hb : (L.take i).all (fun p => decide (n % p ≠ 0)) with
      | true =>
        rw [hb, Bool.true_and] at hall
        (repeat first | with_reducible (first | apply t_seq | apply t_region | apply t_block | apply t_ret | apply t_skip | apply t_exit | apply l_nil | apply x_then | apply x_pass_exit | apply x_pass_ret | apply x_block_ret | apply x_block_normal | apply x_block_here | apply x_block_out rfl) | refine lAv rfl ?_ | refine l_no rfl ?_ | refine tT rfl rfl ?_ | refine tF rfl rfl ?_ | refine lT rfl rfl ?_ | refine lF rfl rfl ?_)
        refine l_w rfl (v_load rfl rfl (fun w' hw' => by rw [Nat.zero_add]; exact own_rd (hw'.item _ (.head _)).1 i _ hat)) ?_
        (repeat first | with_reducible (first | apply t_seq | apply t_region | apply t_block | apply t_ret | apply t_skip | apply t_exit | apply l_nil | apply x_then | apply x_pass_exit | apply x_pass_ret | apply x_block_ret | apply x_block_normal | apply x_block_here | apply x_block_out rfl) | refine lAv rfl ?_ | refine l_no rfl ?_ | refine tT rfl rfl ?_ | refine tF rfl rfl ?_ | refine lT rfl rfl ?_ | refine lF rfl rfl ?_)
        refine x_round (i + 1) ⟨rfl, rfl, rfl, ?_, rfl, trivial⟩ hi2 (fun w' hw' => hw') (by omega)
        rw [hall]
        refine congrArg (fun z => some (Value.bool z)) ?_
        by_cases h0 : n % p = 0
        · rw [h0]; rfl
        · rw [decide_eq_true h0, bne_iff_ne]; omega
      | false =>
        rw [hb, Bool.false_and] at hall
        (repeat first | with_reducible (first | apply t_seq | apply t_region | apply t_block | apply t_ret | apply t_skip | apply t_exit | apply l_nil | apply x_then | apply x_pass_exit | apply x_pass_ret | apply x_block_ret | apply x_block_normal | apply x_block_here | apply x_block_out rfl) | refine lAv rfl ?_ | refine l_no rfl ?_ | refine tT rfl rfl ?_ | refine tF rfl rfl ?_ | refine lT rfl rfl ?_ | refine lF rfl rfl ?_)
        exact x_round (i + 1) ⟨rfl, rfl, rfl, by rw [hall]; rfl, rfl, trivial⟩ hi2 (fun w' hw' => hw') (by omega)
    · obtain rfl : i = L.length := by omega
      rw [List.take_length]
      cases hb : L.all (fun p => decide (n % p ≠ 0)) with
      | true =>
        rw [hb, if_pos rfl] at hup
        (repeat first | with_reducible (first | apply t_seq | apply t_region | apply t_block | apply t_ret | apply t_skip | apply t_exit | apply l_nil | apply x_then | apply x_pass_exit | apply x_pass_ret | apply x_block_ret | apply x_block_normal | apply x_block_here | apply x_block_out rfl) | refine lAv rfl ?_ | refine l_no rfl ?_ | refine tT rfl rfl ?_ | refine tF rfl rfl ?_ | refine lT rfl rfl ?_ | refine lF rfl rfl ?_)
        rw [← hv]
        refine l_op rfl (o_buildslice rfl rfl rfl rfl rfl rfl) fun ⟨bq, hbq⟩ => ?_
        refine l_op rfl (ho_perm (bring1 _ _ _) (o_append (news := u64V [n]) rfl rfl rfl rfl rfl rfl rfl (u64_one _) (by omega) (fun w' hw' j v hj => by rw [add_at, Nat.zero_add]; exact own_rd (hw'.item _ (.tail _ (.head _))).1 j v hj))) fun o' => ?_
        (repeat first | with_reducible (first | apply t_seq | apply t_region | apply t_block | apply t_ret | apply t_skip | apply t_exit | apply l_nil | apply x_then | apply x_pass_exit | apply x_pass_ret | apply x_block_ret | apply x_block_normal | apply x_block_here | apply x_block_out rfl) | refine lAv rfl ?_ | refine l_no rfl ?_ | refine tT rfl rfl ?_ | refine tF rfl rfl ?_ | refine lT rfl rfl ?_ | refine lF rfl rfl ?_)
        have e1 : L.length + 1 = (plow (n + 1)).length := by rw [hup, List.length_append]; rfl
        have e2 : u64V L ++ u64V [n] = u64V (plow (n + 1)) := by rw [hup]; simp [u64V]
        exact x_round (n + 1, o') ⟨rfl, by rw [← e1]; rfl, rfl, trivial⟩ ⟨by simp only; omega, by simp only; omega⟩ (fun w' hw' => by rw [e1, e2] at hw'; exact hw'.sub (.cons_cons _ (.cons _ (.refl _)))) (by simp only; omega)
      | false =>
        rw [hb, if_neg (by decide)] at hup
        (repeat first | with_reducible (first | apply t_seq | apply t_region | apply t_block | apply t_ret | apply t_skip | apply t_exit | apply l_nil | apply x_then | apply x_pass_exit | apply x_pass_ret | apply x_block_ret | apply x_block_normal | apply x_block_here | apply x_block_out rfl) | refine lAv rfl ?_ | refine l_no rfl ?_ | refine tT rfl rfl ?_ | refine tF rfl rfl ?_ | refine lT rfl rfl ?_ | refine lF rfl rfl ?_)
        rw [← hv]
        exact x_round (n + 1, o) ⟨rfl, by rw [hup]; rfl, rfl, trivial⟩ ⟨by simp only; omega, by simp only; omega⟩ (fun w' hw' => by rw [hup]; exact hw') (by simp only; omega)
  · obtain rfl : n = 312 := by omega
    rw [plow_312]
    have hpl := primes_len
    generalize primes = L at hpl ⊢
    refine t_fact (fun w' hw' => own_val (hw'.item (own 57 1 o L.length (u64V L)) (by simp)).1) fun ⟨hv, hc⟩ => ?_
    rw [hv]
    (repeat first | with_reducible (first | apply t_seq | apply t_region | apply t_block | apply t_ret | apply t_skip | apply t_exit | apply l_nil | apply x_then | apply x_pass_exit | apply x_pass_ret | apply x_block_ret | apply x_block_normal | apply x_block_here | apply x_block_out rfl) | refine lAv rfl ?_ | refine l_no rfl ?_ | refine tT rfl rfl ?_ | refine tF rfl rfl ?_ | refine lT rfl rfl ?_ | refine lF rfl rfl ?_)
    rw [← hv, hpl]
    exact x_ct o rfl rfl rfl trivial (.refl _) (by simp [own_stable])
end Go.Proofs.YtdkonngkbbgcgaaGreatDoor
