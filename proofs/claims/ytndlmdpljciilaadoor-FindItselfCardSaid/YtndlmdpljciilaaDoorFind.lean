/- The row of numbers of pieces: skips, tells; the document's Tells. -/
import Derived.Test.YtndlmdpljciilaaDoorFinc
import Derived.Test.YtndlmdpljciilaaDoorSpl
namespace Go.Proofs.YtndlmdpljciilaaDoor
open Go.RowKit Go.Eng Go.Eng.Pc
set_option maxRecDepth 100000
set_option maxHeartbeats 40000000
theorem add_at0 (k : Nat) : 0 + k = k := Nat.zero_add k
theorem skips_calls (a : Option Addr) (c : Nat) (L : List ByteArray) (hL : L.length ≤ 16) (r : Row) (w : World) (hA : StrL w a c L) : Pu Tryd.prog 29 #[.agg (rowV r), .slice a L.length c] w (.agg (rowV (skips (bsOf L) r L.length))) := by
  refine pu_of [_, _] Tryd.func29 rfl rfl ?_
  simp only [argSlots, Nat.reduceAdd]
  (repeat refine s_ ?_)
  refine l_boxa rfl rfl fun b2 hb2 => ?_
  refine l_alloca rfl rfl fun b4 hb4 => ?_
  (repeat refine s_ ?_)
  refine t_for (α := Nat) (fun k => [(7, .slice a L.length c), (2, .pointer (some ⟨b2, 0, none⟩)), (4, .pointer (some ⟨b4, 0, none⟩)), (8, .int .i64 L.length), (9, .int .i64 k)]) (fun k => k ≤ L.length) (fun k => [pt b2 (.cells (rowV (skips (bsOf L) r k)) 64 (0, 0)), pt b4 (.cells (rowV fun _ => false) 64 (0, 0))]) (fun k => L.length - k) 0 ⟨rfl, rfl, rfl, rfl, rfl, trivial⟩ (Nat.zero_le _) (fun _ h => h.perm (.swap _ _ _)) fun k hk => ?_
  by_cases hk' : k < L.length
  · obtain ⟨b, off, rfl, hcell⟩ := hA.at_ (by omega)
    have hev := isEv_bs hk'
    (repeat refine s_ ?_)
    refine l_w rfl (v_load0 rfl rfl (fun h => h) (hcell k hk')) ?_
    (repeat refine s_ ?_)
    refine l_if rfl rfl (fun he => ?_) (fun he => ?_)
    · rw [seq_iff.2 he] at hev
      (repeat refine s_ ?_)
      refine l_w rfl (v_loadp rfl rfl (.head _) (rowV_at _ (show 0 + k < 17 by omega))) ?_
      rw [add_at0]
      (repeat refine s_ ?_)
      refine t_if rfl rfl (fun hr => ?_) (fun hr => ?_)
      · (repeat refine s_ ?_)
        refine l_op rfl (o_store1 rfl rfl rfl rfl rfl rfl (by rw [rowV_size]; omega)) fun _ => ?_
        (repeat refine s_ ?_)
        refine x_round (k + 1) ⟨rfl, rfl, rfl, rfl, rfl, trivial⟩ hk' (fun w h => ?_) (by omega)
        rw [rowV_up, add_at0] at h
        rwa [show skips (bsOf L) r (k + 1) = up (skips (bsOf L) r k) (k + 1) by simp [skips, skip1, hev, hr]]
      · (repeat refine s_ ?_)
        refine x_round (k + 1) ⟨rfl, rfl, rfl, rfl, rfl, trivial⟩ hk' (fun w h => ?_) (by omega)
        rwa [show skips (bsOf L) r (k + 1) = skips (bsOf L) r k by simp [skips, skip1, hr]]
    · (repeat refine s_ ?_)
      refine x_round (k + 1) ⟨rfl, rfl, rfl, rfl, rfl, trivial⟩ hk' (fun w h => ?_) (by omega)
      rwa [show skips (bsOf L) r (k + 1) = skips (bsOf L) r k by
        have : isEv (bsOf L) k = false := by rw [hev]; cases hs : seq L[k] ⟨#[42, 42]⟩ with | false => rfl | true => exact absurd (seq_iff.1 hs) he
        simp [skips, skip1, this]]
  · obtain rfl : k = L.length := by omega
    (repeat refine s_ ?_)
    refine l_op rfl (ho_perm (.swap _ _ _) (o_storea rfl rfl rfl (by rw [rowV_size]; rfl) (rowV_one _) (by rw [rowV_size, rowV_size]))) fun _ => ?_
    (repeat refine s_ ?_)
    exact x_pu rfl ⟨_, rfl, loada_run (by rw [rowV_size]; rfl) (.head _)⟩ rfl
theorem steps_succ (l : List Bs) (r : Row) (n : Bs) (k : Nat) : steps l r n (k + 1) = step1 l r n (steps l r n k) k := rfl
theorem rowB_succ {l ns : List Bs} {k : Nat} (h : k < ns.length) : rowB l ns (k + 1) = skips l (steps l (rowB l ns k) ns[k] l.length) l.length := by
  simp [rowB, List.getD_eq_getElem?_getD, List.getElem?_eq_getElem h]
theorem rowB_next {L M : List ByteArray} {k : Nat} (h : k < M.length) : rowB (bsOf L) (bsOf M) (k + 1) = skips (bsOf L) (steps (bsOf L) (rowB (bsOf L) (bsOf M) k) M[k].data.toList L.length) L.length := by
  rw [rowB_succ (by rwa [bsOf_len])]
  simp [bsOf]
theorem tells_calls (a : Option Addr) (c : Nat) (L : List ByteArray) (hL : L.length ≤ 16) (b0 : Option Addr) (c0 : Nat) (M : List ByteArray) (hM : M.length < 9223372036854775807) (w : World) (hsL : ∀ s ∈ L, s.size < 9223372036854775807) (hsM : ∀ s ∈ M, s.size < 9223372036854775807) (hA : StrL w a c L) (hB : StrL w b0 c0 M) :
    Pu Tryd.prog 20 #[.slice a L.length c, .slice b0 M.length c0] w (.bool (tel (bsOf L) (bsOf M))) := by
  refine pu_of [_, _] Tryd.func20 rfl rfl ?_
  simp only [argSlots, Nat.reduceAdd]
  (repeat refine s_ ?_)
  refine l_w rfl (v_builda rfl rfl rfl rfl rfl) ?_
  refine l_say 11 _ (.agg (rowV fun i => decide (i = 0))) rfl rfl ?_
  (repeat refine s_ ?_)
  refine l_opg rfl (o_pure rfl (by kernel_rfl) rfl (fun w1 hw1 => skips_calls a c L hL _ w1 (hA.keep hw1))) fun _ => ?_
  refine l_alloca rfl rfl fun b5 hb5 => ?_
  refine l_op rfl (o_storea rfl rfl rfl (by rw [rowV_size]; rfl) (rowV_one _) (by rw [rowV_size]; rfl)) fun _ => ?_
  (repeat refine s_ ?_)
  refine t_for (α := Nat) (fun k => [(0, .slice a L.length c), (14, .slice b0 M.length c0), (5, .pointer (some ⟨b5, 0, none⟩)), (15, .int .i64 M.length), (16, .int .i64 k)]) (fun k => k ≤ M.length) (fun k => [pt b5 (.cells (rowV (rowB (bsOf L) (bsOf M) k)) 64 (0, 0))]) (fun k => M.length - k) 0 ⟨rfl, rfl, rfl, rfl, rfl, trivial⟩ (Nat.zero_le _) (fun w h => ?_) fun k hk => ?_
  · rwa [show rowB (bsOf L) (bsOf M) 0 = skips (bsOf L) (fun i => decide (i = 0)) L.length by rw [rowB, bsOf_len]]
  by_cases hk' : k < M.length
  · obtain ⟨b', off', rfl, hcell'⟩ := hB.at_ (by omega)
    (repeat refine s_ ?_)
    refine l_w rfl (v_load0 rfl rfl (fun h => h) (hcell' k hk')) ?_
    (repeat refine s_ ?_)
    refine l_alloca rfl rfl fun b8 hb8 => ?_
    (repeat refine s_ ?_)
    have hsn := hsM _ (List.getElem_mem hk')
    refine t_for (α := Nat) (fun j => [(0, .slice a L.length c), (7, .string M[k]), (20, .slice a L.length c), (14, .slice (some ⟨b', off', none⟩) M.length c0), (5, .pointer (some ⟨b5, 0, none⟩)), (8, .pointer (some ⟨b8, 0, none⟩)), (15, .int .i64 M.length), (16, .int .i64 k), (21, .int .i64 L.length), (22, .int .i64 j)]) (fun j => j ≤ L.length) (fun j => [pt b8 (.cells (rowV (steps (bsOf L) (rowB (bsOf L) (bsOf M) k) M[k].data.toList j)) 64 (0, 0)), pt b5 (.cells (rowV (rowB (bsOf L) (bsOf M) k)) 64 (0, 0))]) (fun j => L.length - j) 0 ⟨rfl, rfl, rfl, rfl, rfl, rfl, rfl, rfl, rfl, rfl, trivial⟩ (Nat.zero_le _) (fun w h => h) fun j hj => ?_
    generalize hR : rowB (bsOf L) (bsOf M) k = R
    by_cases hj' : j < L.length
    · obtain ⟨b, off, rfl, hcell⟩ := hA.at_ (by omega)
      have hsl := hsL _ (List.getElem_mem hj')
      have hst : steps (bsOf L) R M[k].data.toList (j + 1) = if R j then (if seq L[j] ⟨#[42, 42]⟩ then up (steps (bsOf L) R M[k].data.toList j) j else if pm L[j].data.toList M[k].data.toList then up (steps (bsOf L) R M[k].data.toList j) (j + 1) else steps (bsOf L) R M[k].data.toList j) else steps (bsOf L) R M[k].data.toList j := by
        rw [steps_succ, step1, bsOf_at hj']
        simp only [every_iff]
      (repeat refine s_ ?_)
      refine l_w rfl (v_load0 rfl rfl (fun h => h) (hcell j hj')) ?_
      (repeat refine s_ ?_)
      refine l_w rfl (v_loadp rfl rfl (.tail _ (.head _)) (rowV_at _ (show 0 + j < 17 by omega))) ?_
      rw [add_at0]
      by_cases hr : R j = true
      · rw [hr] at hst ⊢
        (repeat refine s_ ?_)
        by_cases he : seq L[j] ⟨#[42, 42]⟩ = true
        · rw [he] at hst ⊢
          (repeat refine s_ ?_)
          refine l_op rfl (o_store1 rfl rfl rfl rfl rfl rfl (by rw [rowV_size]; omega)) fun _ => ?_
          (repeat refine s_ ?_)
          refine x_round (j + 1) ⟨rfl, rfl, rfl, rfl, rfl, rfl, rfl, rfl, rfl, rfl, trivial⟩ hj' (fun w h => ?_) (by omega)
          rw [rowV_up, add_at0] at h
          rw [hst]
          exact h
        · rw [Bool.not_eq_true] at he
          rw [he] at hst ⊢
          (repeat refine s_ ?_)
          refine l_opg rfl (o_pure rfl (by kernel_rfl) rfl (fun w1 hw1 => piece_calls L[j] M[k] hsl hsn w1)) fun _ => ?_
          by_cases hp : pm L[j].data.toList M[k].data.toList = true
          · rw [hp] at hst ⊢
            (repeat refine s_ ?_)
            refine l_op rfl (o_store1 rfl rfl rfl rfl rfl rfl (by rw [rowV_size]; omega)) fun _ => ?_
            (repeat refine s_ ?_)
            refine x_round (j + 1) ⟨rfl, rfl, rfl, rfl, rfl, rfl, rfl, rfl, rfl, rfl, trivial⟩ hj' (fun w h => ?_) (by omega)
            rw [rowV_up, add_at0] at h
            rw [hst]
            exact h
          · rw [Bool.not_eq_true] at hp
            rw [hp] at hst ⊢
            (repeat refine s_ ?_)
            refine x_round (j + 1) ⟨rfl, rfl, rfl, rfl, rfl, rfl, rfl, rfl, rfl, rfl, trivial⟩ hj' (fun w h => ?_) (by omega)
            rw [hst]
            exact h
      · rw [Bool.not_eq_true] at hr
        rw [hr] at hst ⊢
        (repeat refine s_ ?_)
        refine x_round (j + 1) ⟨rfl, rfl, rfl, rfl, rfl, rfl, rfl, rfl, rfl, rfl, trivial⟩ hj' (fun w h => ?_) (by omega)
        rw [hst]
        exact h
    · obtain rfl : j = L.length := by omega
      (repeat refine s_ ?_)
      (repeat refine s_ ?_)
      refine l_opg rfl (o_pure rfl (by kernel_rfl) rfl (fun w1 hw1 => skips_calls a c L hL _ w1 (hA.keep hw1))) fun _ => ?_
      refine l_op rfl (ho_perm (.swap _ _ _) (o_storea rfl rfl rfl (by rw [rowV_size]; rfl) (rowV_one _) (by rw [rowV_size, rowV_size]))) fun _ => ?_
      (repeat refine s_ ?_)
      refine x_round (k + 1) ⟨rfl, rfl, rfl, rfl, rfl, trivial⟩ hk' (fun w h => h.sub ?_) (by omega)
      rw [rowB_next hk', hR]
      exact .cons_cons _ (List.nil_sublist _)
  · obtain rfl : k = M.length := by omega
    (repeat refine s_ ?_)
    refine l_w rfl (v_loadp rfl rfl (.head _) (rowV_at _ (show 0 + L.length < 17 by omega))) ?_
    (repeat refine s_ ?_)
    exact x_pu rfl rfl (by rw [add_at0, ← rowB_tells, bsOf_len, bsOf_len])
end Go.Proofs.YtndlmdpljciilaaDoor
