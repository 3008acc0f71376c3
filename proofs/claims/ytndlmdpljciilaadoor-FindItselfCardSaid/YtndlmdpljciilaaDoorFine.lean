/- The document's Tells; splitting at a slash. -/
import Derived.Test.YtndlmdpljciilaaDoorFind
namespace Go.Proofs.YtndlmdpljciilaaDoor
open Go.RowKit Go.Eng Go.Eng.Pc
set_option maxRecDepth 100000
set_option maxHeartbeats 40000000
theorem nil_len {L : List ByteArray} (h : L.length = 0) : L = [] := List.eq_nil_of_length_eq_zero h
theorem bs_cons {L : List ByteArray} (h : 0 < L.length) : bsOf L = L[0].data.toList :: bsOf (L.drop 1) := by
  cases L with | nil => simp at h | cons a t => rfl
theorem sufs_false {f : List Bs → Bool} {n : List Bs} (h : ∀ k, k ≤ n.length → f (n.drop k) = false) : sufs f n = false := by
  cases hs : sufs f n
  · rfl
  · obtain ⟨k, hk, h2⟩ := (sufs_iff _ _).1 hs
    rw [h k hk] at h2; cases h2
theorem rtells_calls : ∀ (n : Nat) (L : List ByteArray), L.length = n → n < 9223372036854775807 → (∀ s ∈ L, s.size < 9223372036854775807) → ∀ (a : Option Addr) (c : Nat) (b0 : Option Addr) (c0 : Nat) (M : List ByteArray) (w : World), M.length < 9223372036854775807 → (∀ s ∈ M, s.size < 9223372036854775807) → StrL w a c L → StrL w b0 c0 M →
    Pu Tryd.prog 14 #[.slice a L.length c, .slice b0 M.length c0] w (.bool (tel (bsOf L) (bsOf M))) := by
  intro n
  induction n with
  | zero =>
    intro L hLn h1 hsL a c b0 c0 M w hM hsM hA hB
    obtain rfl := nil_len hLn
    have h0 : ([] : List ByteArray).length = 0 := rfl
    refine pu_of [_, _] Tryd.func14 rfl rfl ?_
    simp only [argSlots, Nat.reduceAdd]
    (repeat refine s_ ?_)
    refine x_pu rfl rfl ?_
    show _ = Value.bool ((bsOf M).isEmpty)
    cases M with | nil => rfl | cons a t => rfl
  | succ n ih =>
    intro L hLn h1 hsL a c b0 c0 M w hM hsM hA hB
    have hL0 : 0 < L.length := by omega
    have hcap := hA.cap
    have hcapB := hB.cap
    have hbs := bs_cons hL0
    obtain ⟨b, off, rfl, hcell⟩ := hA.at_ hL0
    have hA1 := hA.drop 1 (by omega)
    have hL1 : (L.drop 1).length = L.length - 1 := by simp
    have hs1 : ∀ s ∈ L.drop 1, s.size < 9223372036854775807 := fun s hs => hsL s (List.drop_subset _ _ hs)
    have ih1 := fun (w1 : World) (b0 : Option Addr) (c0 : Nat) (M : List ByteArray) => ih (L.drop 1) (by rw [hL1]; omega) (by omega) hs1 (slAt (some ⟨b, off, none⟩) (decide (c = 1)) (1 * 1)) (c - 1) b0 c0 M w1
    rw [hL1] at ih1
    have hx0 := hcell 0 hL0
    rw [Nat.add_zero] at hx0
    refine pu_of [_, _] Tryd.func14 rfl rfl ?_
    simp only [argSlots, Nat.reduceAdd]
    (repeat refine s_ ?_)
    rw [Nat.add_zero]
    refine l_w rfl (v_load0 rfl rfl (fun h => h) hx0) ?_
    (repeat refine s_ ?_)
    refine t_if rfl rfl (fun he => ?_) (fun he => ?_)
    · have hev : (L[0].data.toList == every) = false := by rw [every_iff]; cases hs : seq L[0] ⟨#[42, 42]⟩ with | false => rfl | true => exact absurd (seq_iff.1 hs) he
      by_cases hM0 : 0 < M.length
      · obtain ⟨b', off', rfl, hcell'⟩ := hB.at_ hM0
        have hB1 := hB.drop 1 (by omega)
        have hy0 := hcell' 0 hM0
        rw [Nat.add_zero] at hy0
        have hM1 : (M.drop 1).length = M.length - 1 := by simp
        have hsm : M[0].size < 9223372036854775807 := hsM _ (List.getElem_mem hM0)
        have hsl : L[0].size < 9223372036854775807 := hsL _ (List.getElem_mem hL0)
        have htel : tel (bsOf L) (bsOf M) = (pm L[0].data.toList M[0].data.toList && tel (bsOf (L.drop 1)) (bsOf (M.drop 1))) := by
          conv => lhs; rw [hbs, bs_cons hM0]
          rw [tel_one hev]
        (repeat refine s_ ?_)
        refine t_drawp (by kernel_rfl) ?_
        (repeat refine d_ ?_)
        rw [Nat.add_zero]
        refine d_v [] rfl rfl (by kernel_rfl) (fun _ h => h) rfl rfl (v_load0 rfl rfl (fun h => h) hx0) ?_
        (repeat refine d_ ?_)
        rw [Nat.add_zero]
        refine d_v [] rfl rfl (by kernel_rfl) (fun _ h => h) rfl rfl (v_load0 rfl rfl (fun h => h) hy0) ?_
        (repeat refine d_ ?_)
        refine d_opg 10 ⟨by kernel_rfl, by decide⟩ rfl rfl (o_pure rfl (by kernel_rfl) rfl (fun w1 hw1 => rpiece_calls _ L[0] M[0] rfl hsl hsm w1)) (fun _ _ h => h) fun _ => ?_
        by_cases hp : pm L[0].data.toList M[0].data.toList = true
        · rw [hp] at htel ⊢
          (repeat refine d_ ?_)
          refine d_opg 17 ⟨by kernel_rfl, by decide⟩ rfl rfl (o_pure rfl (by kernel_rfl) rfl (fun w1 hw1 => by rw [← hM1]; exact ih1 w1 _ _ (M.drop 1) (by rw [hM1]; omega) (fun s hs => hsM s (List.drop_subset _ _ hs)) (hA1.keep hw1) (hB1.keep hw1))) (fun _ _ h => h) fun _ => ?_
          (repeat refine d_ ?_)
          refine d_end (by kernel_rfl) ?_
          (repeat refine s_ ?_)
          exact x_pu rfl rfl (by rw [htel]; rfl)
        · rw [Bool.not_eq_true] at hp
          rw [hp] at htel ⊢
          (repeat refine d_ ?_)
          refine d_end (by kernel_rfl) ?_
          (repeat refine s_ ?_)
          exact x_pu rfl rfl (by rw [htel]; rfl)
      · obtain rfl := nil_len (show M.length = 0 by omega)
        (repeat refine s_ ?_)
        (refine t_drawp (by kernel_rfl) ?_; (repeat refine d_ ?_); refine d_end (by kernel_rfl) ?_)
        (repeat refine s_ ?_)
        refine x_pu rfl rfl ?_
        rw [hbs]
        show _ = Value.bool (tel (_ :: _) [])
        rw [tel_none hev]
    · have he' : L[0] = ⟨#[42, 42]⟩ := by
        rcases Classical.em (L[0] = ⟨#[42, 42]⟩) with h | h
        · exact h
        · exact absurd h he
      have hev : L[0].data.toList = every := by rw [he']; rfl
      have htel : tel (bsOf L) (bsOf M) = sufs (tel (bsOf (L.drop 1))) (bsOf M) := by rw [hbs, hev, tel_every]
      (repeat refine s_ ?_)
      refine t_for (α := Nat) (fun k => [(0, .slice (some ⟨b, off, none⟩) L.length c), (1, .slice b0 M.length c0), (5, .int .i64 k)]) (fun k => k ≤ M.length + 1 ∧ ∀ j, j < k → tel (bsOf (L.drop 1)) ((bsOf M).drop j) = false) (fun _ => []) (fun k => M.length + 1 - k) 0 ⟨rfl, rfl, rfl, trivial⟩ ⟨Nat.zero_le _, fun _ h => absurd h (Nat.not_lt_zero _)⟩ (fun _ h => h) fun k ⟨hk, hno⟩ => ?_
      by_cases hk' : k ≤ M.length
      · have hMk : (M.drop k).length = M.length - k := by simp
        (repeat refine s_ ?_)
        refine t_drawp (by kernel_rfl) ?_
        (repeat refine d_ ?_)
        refine d_opg 5 ⟨by kernel_rfl, by decide⟩ rfl rfl (o_pure rfl (by kernel_rfl) rfl (fun w1 hw1 => by rw [← hMk]; exact ih1 w1 _ _ (M.drop k) (by rw [hMk]; omega) (fun s hs => hsM s (List.drop_subset _ _ hs)) (hA1.keep hw1) ((hB.drop k hk').keep hw1))) (fun _ _ h => h) fun _ => ?_
        refine d_end (by kernel_rfl) ?_
        (repeat refine s_ ?_)
        refine t_if rfl rfl (fun hc => ?_) (fun hc => ?_)
        · (repeat refine s_ ?_)
          refine x_pu rfl rfl ?_
          rw [htel, (sufs_iff _ _).2 ⟨k, by rwa [bsOf_len], by rwa [← bsOf_drop]⟩]
        · (repeat refine s_ ?_)
          refine x_round (k + 1) ⟨rfl, rfl, rfl, trivial⟩ ⟨by omega, fun j hj => ?_⟩ (fun _ h => h) (by omega)
          by_cases e : j = k
          · subst e; rw [← bsOf_drop]; simpa using hc
          · exact hno j (by omega)
      · (repeat refine s_ ?_)
        refine x_pu rfl rfl ?_
        rw [htel, sufs_false fun j hj => hno j (by rw [bsOf_len] at hj; omega)]
end Go.Proofs.YtndlmdpljciilaaDoor
