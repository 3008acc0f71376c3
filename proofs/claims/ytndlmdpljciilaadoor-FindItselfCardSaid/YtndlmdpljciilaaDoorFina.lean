/- What the functions that ask for size answer: many. -/
import Derived.Test.YtndlmdpljciilaaDoorChecked
import Derived.Test.YtndlmdpljciilaaDoorSym
import Derived.Test.YtndlmdpljciilaaDoorPiece
namespace Go.Proofs.YtndlmdpljciilaaDoor
open Go.RowKit Go.Eng Go.Eng.Pc
set_option maxRecDepth 100000
set_option maxHeartbeats 40000000
def starAt (s : ByteArray) (k : Nat) : Bool := match s[k]? with | some c => ((c.toNat : Nat) : Int) == 42 | none => false
theorem starAt_eq {s : ByteArray} {k : Nat} (h : k < s.size) : starAt s k = (((s[k].toNat : Nat) : Int) == 42) := by
  unfold starAt
  rw [show s[k]? = some s[k] by simp [h]]
def stars (s : ByteArray) : Nat → Nat
  | 0 => 0
  | k + 1 => stars s k + (starAt s k).toNat
theorem stars_le (s : ByteArray) : ∀ k, stars s k ≤ k
  | 0 => Nat.le_refl _
  | k + 1 => by have := stars_le s k; simp only [stars]; cases starAt s k <;> simp <;> omega
def manyB (s : ByteArray) : Bool := bif decide ((stars s s.size : Int) > 8) then true else decide ((s.size : Int) > 300)
theorem many_calls (s : ByteArray) (hs : s.size ≤ 9223372036854775807) (w : World) : Pu Tryd.prog 7 #[.string s] w (.bool (manyB s)) := by
  refine pu_of [_] Tryd.func7 rfl rfl ?_
  simp only [argSlots]
  (repeat refine s_ ?_)
  refine t_for (α := Nat) (fun k => [(0, .string s), (3, .int .i64 (stars s k)), (4, .int .i64 k)]) (fun k => k ≤ s.size) (fun _ => []) (fun k => s.size - k) 0 ⟨rfl, rfl, rfl, trivial⟩ (Nat.zero_le _) (fun _ h => h) fun k hk => ?_
  have hck := stars_le s k
  (repeat refine s_ ?_)
  refine t_cond _ rfl rfl (fun h => ?_) (fun h => ?_)
  · have hk' : k < s.size := by simp at h; omega
    (repeat refine s_ ?_)
    refine t_cond _ rfl rfl (fun h2 => ?_) (fun h2 => ?_)
    · (repeat refine s_ ?_)
      exact x_round (k + 1) ⟨rfl, by simp only [stars, starAt_eq hk', h2]; rfl, rfl, trivial⟩ hk' (fun _ h => h) (by omega)
    · (repeat refine s_ ?_)
      exact x_round (k + 1) ⟨rfl, by simp only [stars, starAt_eq hk', h2]; rfl, rfl, trivial⟩ hk' (fun _ h => h) (by omega)
  · obtain rfl : k = s.size := by simp at h; omega
    (repeat refine s_ ?_)
    by_cases h8 : (stars s s.size : Int) > 8
    · (repeat refine s_ ?_)
      exact x_pu rfl rfl (by unfold manyB; rw [decide_eq_true h8, cond_true])
    · (repeat refine s_ ?_)
      exact x_pu rfl rfl (by unfold manyB; rw [decide_eq_false h8, cond_false])
end Go.Proofs.YtndlmdpljciilaaDoor
namespace Go.Proofs.YtndlmdpljciilaaDoor
open Go.RowKit Go.Eng Go.Eng.Pc
set_option maxRecDepth 100000
set_option maxHeartbeats 40000000
def greatB (L : List ByteArray) : Bool := decide (12 < L.length) || L.any fun s => decide (40 < s.size)
theorem great_calls (a : Option Addr) (c : Nat) (L : List ByteArray) (hL : L.length ≤ 9223372036854775807) (w : World) (hA : StrL w a c L) : Pu Tryd.prog 8 #[.slice a L.length c] w (.bool (greatB L)) := by
  refine pu_of [_] Tryd.func8 rfl rfl ?_
  simp only [argSlots]
  by_cases h12 : 12 < L.length
  · (repeat refine s_ ?_)
    exact x_pu rfl rfl (by unfold greatB; rw [decide_eq_true h12]; rfl)
  · (repeat refine s_ ?_)
    refine t_for (α := Nat) (fun k => [(0, .slice a L.length c), (3, .int .i64 k)]) (fun k => k ≤ L.length ∧ (L.take k).any (fun s => decide (40 < s.size)) = false) (fun _ => []) (fun k => L.length - k) 0 ⟨rfl, rfl, trivial⟩ ⟨Nat.zero_le _, rfl⟩ (fun _ h => h) fun k ⟨hk, hno⟩ => ?_
    by_cases hk' : k < L.length
    · obtain ⟨b, off, rfl, hcell⟩ := hA.at_ (by omega)
      have htk : (L.take (k + 1)).any (fun s => decide (40 < s.size)) = decide (40 < L[k].size) := by
        rw [List.take_succ_eq_append_getElem hk', List.any_append, hno]; simp
      (repeat refine s_ ?_)
      refine l_w rfl (v_load0 rfl rfl (fun h => h) (hcell k hk')) ?_
      (repeat refine s_ ?_)
      refine t_if rfl rfl (fun h => ?_) (fun h => ?_)
      · (repeat refine s_ ?_)
        refine x_pu rfl rfl ?_
        unfold greatB
        rw [show L.any (fun s => decide (40 < s.size)) = true from ?_, Bool.or_true]
        rw [List.any_eq_true]
        exact ⟨_, List.getElem_mem hk', by simp; omega⟩
      · (repeat refine s_ ?_)
        exact x_round (k + 1) ⟨rfl, rfl, trivial⟩ ⟨hk', by rw [htk]; simp; omega⟩ (fun _ h => h) (by omega)
    · obtain rfl : k = L.length := by omega
      (repeat refine s_ ?_)
      refine x_pu rfl rfl ?_
      rw [List.take_length] at hno
      unfold greatB
      rw [hno, decide_eq_false h12]; rfl
end Go.Proofs.YtndlmdpljciilaaDoor
