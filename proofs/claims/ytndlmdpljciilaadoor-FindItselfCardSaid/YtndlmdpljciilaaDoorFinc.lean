/- The document's way of a piece; splitting at a slash. -/
import Derived.Test.YtndlmdpljciilaaDoorFinb
import Derived.Test.YtndlmdpljciilaaDoorTell
namespace Go.Proofs.YtndlmdpljciilaaDoor
open Go.RowKit Go.Eng Go.Eng.Pc
set_option maxRecDepth 100000
set_option maxHeartbeats 40000000
theorem list_nil {s : ByteArray} (h : s.size = 0) : s.data.toList = [] := by rw [← List.length_eq_zero_iff, size_list]; exact h
theorem nil_iff (s : ByteArray) : s = ⟨#[]⟩ ↔ s.size = 0 := by
  constructor
  · rintro rfl; rfl
  · intro h; exact ba_ext (list_nil h)
theorem extract_size (s : ByteArray) (i : Nat) (_h : i ≤ s.size) : (s.extract i s.size).size = s.size - i := by simp
theorem suf_false {f : List UInt8 → Bool} {n : List UInt8} (h : ∀ k, k ≤ n.length → f (n.drop k) = false) : suf f n = false := by
  cases hs : suf f n
  · rfl
  · obtain ⟨k, hk, h2⟩ := (suf_iff _ _).1 hs
    rw [h k hk] at h2; cases h2
theorem rpiece_calls : ∀ (n : Nat) (P T : ByteArray), P.size = n → n < 9223372036854775807 → T.size < 9223372036854775807 → ∀ w : World, Pu Tryd.prog 13 #[.string P, .string T] w (.bool (pm P.data.toList T.data.toList)) := by
  intro n
  induction n with
  | zero =>
    intro P T hP h1 h2 w
    obtain rfl := (nil_iff P).2 hP
    refine pu_of [_, _] Tryd.func13 rfl rfl ?_
    simp only [argSlots, Nat.reduceAdd]
    (repeat refine s_ ?_)
    refine x_pu rfl rfl ?_
    rw [seq_list]
    show _ = Value.bool (T.data.toList.isEmpty)
    cases T.data.toList <;> rfl
  | succ n ih =>
    intro P T hP h1 h2 w
    have hne : ¬ P = ⟨#[]⟩ := fun h => by rw [nil_iff] at h; omega
    have hPd := list_head P (by omega)
    have hex : ((P.extract 1 P.size).data.toList) = P.data.toList.drop 1 := drop_extract P 1
    have hsz : (P.extract 1 P.size).size = n := by rw [extract_size _ _ (by omega)]; omega
    refine pu_of [_, _] Tryd.func13 rfl rfl ?_
    simp only [argSlots, Nat.reduceAdd]
    by_cases h42 : (P[0].toNat : Int) = 42
    · have hc : P[0] = 42 := by have := beq_42 P[0]; rw [beq_t h42] at this; simpa using this.symm
      (repeat refine s_ ?_)
      refine t_for (α := Nat) (fun k => [(0, .string P), (1, .string T), (5, .int .i64 k)]) (fun k => k ≤ T.size + 1 ∧ ∀ j, j < k → pm (P.data.toList.drop 1) (T.data.toList.drop j) = false) (fun _ => []) (fun k => T.size + 1 - k) 0 ⟨rfl, rfl, rfl, trivial⟩ ⟨Nat.zero_le _, fun _ h => absurd h (Nat.not_lt_zero _)⟩ (fun _ h => h) fun k ⟨hk, hno⟩ => ?_
      by_cases hk' : k ≤ T.size
      · (repeat refine s_ ?_)
        refine t_drawp (by kernel_rfl) ?_
        (repeat refine d_ ?_)
        refine d_opg 5 ⟨by kernel_rfl, by decide⟩ rfl rfl (o_pure rfl (by kernel_rfl) rfl (fun w1 hw1 => ih (P.extract 1 P.size) (T.extract k T.size) hsz (by omega) (by rw [extract_size _ _ hk']; omega) w1)) (fun _ _ h => h) fun _ => ?_
        refine d_end (by kernel_rfl) ?_
        (repeat refine s_ ?_)
        refine t_cond _ rfl rfl (fun hc => ?_) (fun hn => ?_)
        · (repeat refine s_ ?_)
          refine x_pu rfl rfl ?_
          rw [hPd, ‹P[0] = 42›, pm_star]
          congr 1
          exact ((suf_iff _ _).2 ⟨k, by simpa using hk', by rwa [hex, drop_extract] at hc⟩).symm
        · (repeat refine s_ ?_)
          refine x_round (k + 1) ⟨rfl, rfl, rfl, trivial⟩ ⟨by omega, fun j hj => ?_⟩ (fun _ h => h) (by omega)
          by_cases e : j = k
          · subst e; rwa [hex, drop_extract] at hn
          · exact hno j (by omega)
      · (repeat refine s_ ?_)
        refine x_pu rfl rfl ?_
        rw [hPd, hc, pm_star, suf_false fun j hj => hno j (by simp at hj; omega)]
    · have hc : (P[0] == 42) = false := by rw [← beq_42, beq_f h42]
      by_cases hT : T = ⟨#[]⟩
      · subst hT
        (repeat refine s_ ?_)
        (refine t_drawp (by kernel_rfl) ?_; (repeat refine d_ ?_); refine d_end (by kernel_rfl) ?_)
        (repeat refine s_ ?_)
        refine x_pu rfl rfl ?_
        rw [hPd]
        show _ = Value.bool (pm (P[0] :: _) [])
        rw [pm_end hc]
      · have hTd := list_head T (by rw [nil_iff] at hT; omega)
        have hTs : 0 < T.size := by rw [nil_iff] at hT; omega
        have hpm : pm P.data.toList T.data.toList = ((P[0] == 63 || P[0] == T[0]) && pm (P.extract 1 P.size).data.toList (T.extract 1 T.size).data.toList) := by
          rw [hex, drop_extract]
          conv => lhs; rw [hPd, hTd]
          rw [pm_lit hc]
        have hcall := fun w1 => ih (P.extract 1 P.size) (T.extract 1 T.size) hsz (by omega) (by rw [extract_size _ _ (by omega)]; omega) w1
        by_cases h6 : (P[0].toNat : Int) = 63
        · (repeat refine s_ ?_)
          refine t_drawp (by kernel_rfl) ?_
          (repeat refine d_ ?_)
          refine d_opg 19 ⟨by kernel_rfl, by decide⟩ rfl rfl (o_pure rfl (by kernel_rfl) rfl (fun w1 hw1 => hcall w1)) (fun _ _ h => h) fun _ => ?_
          (repeat refine d_ ?_)
          refine d_end (by kernel_rfl) ?_
          (repeat refine s_ ?_)
          refine x_pu rfl rfl ?_
          rw [hpm, ← beq_63, beq_t h6]; rfl
        · by_cases h7 : (P[0].toNat : Int) = (T[0].toNat : Int)
          · (repeat refine s_ ?_)
            refine t_drawp (by kernel_rfl) ?_
            (repeat refine d_ ?_)
            refine d_opg 19 ⟨by kernel_rfl, by decide⟩ rfl rfl (o_pure rfl (by kernel_rfl) rfl (fun w1 hw1 => hcall w1)) (fun _ _ h => h) fun _ => ?_
            (repeat refine d_ ?_)
            refine d_end (by kernel_rfl) ?_
            (repeat refine s_ ?_)
            refine x_pu rfl rfl ?_
            rw [hpm, ← beq_63, ← beq_byte, beq_t h7, Bool.or_true]; rfl
          · (repeat refine s_ ?_)
            (refine t_drawp (by kernel_rfl) ?_; (repeat refine d_ ?_); refine d_end (by kernel_rfl) ?_)
            (repeat refine s_ ?_)
            refine x_pu rfl rfl ?_
            rw [hpm, ← beq_63, ← beq_byte, beq_f h6, beq_f h7]; rfl
end Go.Proofs.YtndlmdpljciilaaDoor
