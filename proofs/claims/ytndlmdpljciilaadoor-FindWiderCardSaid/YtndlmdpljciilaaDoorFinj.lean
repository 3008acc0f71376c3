/- What wakes. -/
import Derived.Test.YtndlmdpljciilaaDoorFini
namespace Go.Proofs.YtndlmdpljciilaaDoor
open Go.RowKit Go.Eng Go.Eng.Pc
set_option maxRecDepth 100000
set_option maxHeartbeats 40000000
def S1 : ByteArray := ⟨#[97, 47, 42, 42, 47, 120, 63]⟩
theorem wakes_calls (w : World) : Pu Tryd.prog 9 #[] w (.bool true) := by
  have e1 : errP (pcL ⟨#[97, 47, 42, 42, 47, 120, 63]⟩) = 0 := by kernel_rfl
  have e2 : errP (pcL ⟨#[97, 47, 47, 98]⟩) = 7 := by kernel_rfl
  have t1 : tel (spl (⟨#[97, 47, 42, 42, 47, 120, 63]⟩ : ByteArray).data.toList) (bsOf [⟨#[97]⟩, ⟨#[98]⟩, ⟨#[99]⟩, ⟨#[120, 121]⟩]) = true := by decide
  have t2 : tel (spl (⟨#[97, 47, 42, 42, 47, 120, 63]⟩ : ByteArray).data.toList) (bsOf [⟨#[97]⟩, ⟨#[120]⟩]) = false := by decide
  have p1 : pm (⟨#[97, 42, 99]⟩ : ByteArray).data.toList (⟨#[97, 98, 98, 99]⟩ : ByteArray).data.toList = true := by decide
  have p2 : pm (⟨#[63]⟩ : ByteArray).data.toList (⟨#[]⟩ : ByteArray).data.toList = false := by decide
  refine pu_of [] Tryd.func9 rfl rfl ?_
  simp only [argSlots]
  (repeat refine s_ ?_)
  refine l_op rfl (o_buildslice rfl rfl rfl rfl rfl rfl) fun x => ?_
  refine l_opg rfl (o_pure rfl (by kernel_rfl) rfl (fun w1 hw1 => match_ok ⟨#[97, 47, 42, 42, 47, 120, 63]⟩ (by decide) _ _ [⟨#[97]⟩, ⟨#[98]⟩, ⟨#[99]⟩, ⟨#[120, 121]⟩] (by decide) (by decide) w1 e1 (own_StrL (o := some (x.1, 4)) (hw1.item _ (.head _)).1).2)) fun _ => ?_
  rw [t1]
  (repeat refine s_ ?_)
  refine l_op rfl (o_buildslice rfl rfl rfl rfl rfl rfl) fun x => ?_
  refine l_opg rfl (o_pure rfl (by kernel_rfl) rfl (fun w1 hw1 => match_ok ⟨#[97, 47, 42, 42, 47, 120, 63]⟩ (by decide) _ _ [⟨#[97]⟩, ⟨#[120]⟩] (by decide) (by decide) w1 e1 (own_StrL (o := some (x.1, 2)) (hw1.item _ (.head _)).1).2)) fun _ => ?_
  rw [t2]
  (repeat refine s_ ?_)
  refine l_opg rfl (o_pure rfl (by kernel_rfl) rfl (fun w1 hw1 => match_bad ⟨#[97, 47, 47, 98]⟩ (by decide) (.slice none 0 0) w1 (by rw [e2]; decide))) fun _ => ?_
  rw [e2]
  (repeat refine s_ ?_)
  refine l_opg rfl (o_pure rfl (by kernel_rfl) rfl (fun w1 hw1 => piece_calls ⟨#[97, 42, 99]⟩ ⟨#[97, 98, 98, 99]⟩ (by decide) (by decide) w1)) fun _ => ?_
  rw [p1]
  (repeat refine s_ ?_)
  refine l_opg rfl (o_pure rfl (by kernel_rfl) rfl (fun w1 hw1 => piece_calls ⟨#[63]⟩ ⟨#[]⟩ (by decide) (by decide) w1)) fun _ => ?_
  rw [p2]
  (repeat refine s_ ?_)
  exact x_pu rfl rfl rfl
theorem many_le {s : ByteArray} (h : manyB s = false) : s.size ≤ 300 := by
  unfold manyB at h
  cases h8 : decide ((stars s s.size : Int) > 8) <;> rw [h8] at h
  · have h' : decide ((s.size : Int) > 300) = false := h
    rw [decide_eq_false_iff_not] at h'; omega
  · cases h
theorem great_le {L : List ByteArray} (h : greatB L = false) : L.length ≤ 12 ∧ ∀ s ∈ L, s.size ≤ 40 := by
  unfold greatB at h
  rw [Bool.or_eq_false_iff] at h
  refine ⟨by simpa using h.1, fun s hs => ?_⟩
  have := List.any_eq_false.1 h.2 s hs
  simpa using this
theorem matches_ok (p n t : ByteArray) (b0 : Option Addr) (c0 : Nat) (M : List ByteArray) (hp : p.size ≤ 9223372036854775807) (hn : n.size ≤ 9223372036854775807) (ht : t.size ≤ 9223372036854775807) (hM : M.length ≤ 9223372036854775807) (w : World) (hB : StrL w b0 c0 M) :
    Pu Tryd.prog 3 #[.string p, .string n, .string t, .slice b0 M.length c0] w (.bool true) := by
  refine pu_of [_, _, _, _] Tryd.func3 rfl rfl ?_
  simp only [argSlots, Nat.reduceAdd]
  (repeat refine s_ ?_)
  refine l_opg rfl (o_pure rfl (by kernel_rfl) rfl (fun w1 hw1 => many_calls p hp w1)) fun _ => ?_
  cases h1 : manyB p with
  | true =>
    (repeat refine s_ ?_)
    refine l_opg rfl (o_pure rfl (by kernel_rfl) rfl (fun w1 hw1 => wakes_calls w1)) fun _ => ?_
    (repeat refine s_ ?_)
    exact x_pu rfl rfl rfl
  | false =>
  (repeat refine s_ ?_)
  refine l_opg rfl (o_pure rfl (by kernel_rfl) rfl (fun w1 hw1 => many_calls t ht w1)) fun _ => ?_
  cases h2 : manyB t with
  | true =>
    (repeat refine s_ ?_)
    refine l_opg rfl (o_pure rfl (by kernel_rfl) rfl (fun w1 hw1 => wakes_calls w1)) fun _ => ?_
    (repeat refine s_ ?_)
    exact x_pu rfl rfl rfl
  | false =>
  by_cases h3 : 40 < n.size
  · (repeat refine s_ ?_)
    refine l_opg rfl (o_pure rfl (by kernel_rfl) rfl (fun w1 hw1 => wakes_calls w1)) fun _ => ?_
    (repeat refine s_ ?_)
    exact x_pu rfl rfl rfl
  (repeat refine s_ ?_)
  refine l_opg rfl (o_pure rfl (by kernel_rfl) rfl (fun w1 hw1 => great_calls b0 c0 M hM w1 (hB.keep hw1))) fun _ => ?_
  cases h4 : greatB M with
  | true =>
    (repeat refine s_ ?_)
    refine l_opg rfl (o_pure rfl (by kernel_rfl) rfl (fun w1 hw1 => wakes_calls w1)) fun _ => ?_
    (repeat refine s_ ?_)
    exact x_pu rfl rfl rfl
  | false =>
  have ht3 := many_le h2
  have hp3 := many_le h1
  have hn3 : n.size < 9223372036854775807 := by omega
  have hp4 : p.size < 9223372036854775807 := by omega
  obtain ⟨hM2, hs2⟩ := great_le h4
  have hM3 : M.length < 9223372036854775807 := by omega
  have hsM : ∀ s ∈ M, s.size < 9223372036854775807 := fun s hs => by have := hs2 s hs; omega
  have hz := spl_sizes t
  have hc := spl_count t
  (repeat refine s_ ?_)
  by_cases he : errP (pcL t) = 0
  · refine l_opg rfl (o_pure rfl (by kernel_rfl) rfl (fun w1 hw1 => match_ok t (by omega) b0 c0 M hM3 hsM w1 he (hB.keep hw1))) fun _ => ?_
    (repeat refine s_ ?_)
    refine l_ctg rfl rfl (by kernel_rfl) rfl (fun w1 hw1 => rpieces_calls t (by omega) w1) fun x hx => ?_
    rw [he, if_pos rfl]
    (repeat refine s_ ?_)
    refine l_opg rfl (o_pure rfl (by kernel_rfl) rfl (fun w1 hw1 => piece_calls p n hp4 hn3 w1)) fun _ => ?_
    (repeat refine s_ ?_)
    refine l_opg rfl (o_pure rfl (by kernel_rfl) rfl (fun w1 hw1 => rpiece_calls _ p n rfl hp4 hn3 w1)) fun _ => ?_
    (repeat refine s_ ?_)
    refine l_opg rfl (o_pure rfl (by kernel_rfl) rfl (fun w1 hw1 => rtells_calls _ (pcL t) rfl (by omega) (fun s hs => by have := hz s hs; omega) _ _ b0 c0 M w1 hM3 hsM (own_StrL (hw1.item _ (.head _)).1).2 (hB.keep hw1))) fun _ => ?_
    rw [pcL_bs]
    cases tel (spl t.data.toList) (bsOf M)
    all_goals
      (repeat refine s_ ?_)
      refine l_opg rfl (o_pure rfl (by kernel_rfl) rfl (fun w1 hw1 => wakes_calls w1)) fun _ => ?_
      (repeat refine s_ ?_)
      exact x_pu rfl rfl rfl
  · refine l_opg rfl (o_pure rfl (by kernel_rfl) rfl (fun w1 hw1 => match_bad t (by omega) _ w1 he)) fun _ => ?_
    (repeat refine s_ ?_)
    refine l_ctg rfl rfl (by kernel_rfl) rfl (fun w1 hw1 => rpieces_calls t (by omega) w1) fun x hx => ?_
    (repeat refine s_ ?_)
    refine l_opg rfl (o_pure rfl (by kernel_rfl) rfl (fun w1 hw1 => piece_calls p n hp4 hn3 w1)) fun _ => ?_
    (repeat refine s_ ?_)
    refine l_opg rfl (o_pure rfl (by kernel_rfl) rfl (fun w1 hw1 => rpiece_calls _ p n rfl hp4 hn3 w1)) fun _ => ?_
    (repeat refine s_ ?_)
    refine l_opg rfl (o_pure rfl (by kernel_rfl) rfl (fun w1 hw1 => wakes_calls w1)) fun _ => ?_
    (repeat refine s_ ?_)
    exact x_pu rfl rfl rfl
end Go.Proofs.YtndlmdpljciilaaDoor
