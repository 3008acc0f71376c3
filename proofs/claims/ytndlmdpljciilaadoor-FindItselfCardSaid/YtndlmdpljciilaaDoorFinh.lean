/- The pieces of a pattern, in both ways; Match. -/
import Derived.Test.YtndlmdpljciilaaDoorFing
namespace Go.Proofs.YtndlmdpljciilaaDoor
open Go.RowKit Go.Eng Go.Eng.Pc
set_option maxRecDepth 100000
set_option maxHeartbeats 40000000
def badB (s : ByteArray) : Bool := seq s ⟨#[]⟩ || decide ((s.size : Int) > 32)
theorem bad_calls (s : ByteArray) (_hs : s.size < 9223372036854775807) (w : World) : Pu Tryd.prog 28 #[.string s] w (.bool (badB s)) := by
  refine pu_of [_] Tryd.func28 rfl rfl ?_
  simp only [argSlots]
  by_cases h : s = ⟨#[]⟩
  · (repeat refine s_ ?_)
    exact x_pu rfl rfl (by rw [badB, seq_iff.2 h]; rfl)
  · (repeat refine s_ ?_)
    exact x_pu rfl rfl (by rw [badB, show seq s ⟨#[]⟩ = false from Deci.no h]; rfl)
def ixB (L : List ByteArray) : Int := match L.findIdx? badB with
  | some i => (i : Nat)
  | none => -1
theorem indexf_calls (a : Option Addr) (c : Nat) (L : List ByteArray) (hL : L.length < 9223372036854775807) (hS : ∀ s ∈ L, s.size < 9223372036854775807) (w : World) (hA : StrL w a c L) : Pu Tryd.prog 43 #[.slice a L.length c, .func (.func 28) #[] #[]] w (.int .i64 (ixB L)) := by
  refine pu_of [_, _] Tryd.func43 rfl rfl ?_
  simp only [argSlots, Nat.reduceAdd]
  (repeat refine s_ ?_)
  refine t_for (α := Nat) (fun k => [(0, .slice a L.length c), (1, .func (.func 28) #[] #[]), (7, .int .i64 L.length), (8, .int .i64 k)]) (fun k => k ≤ L.length ∧ ∀ j (h : j < L.length), j < k → badB L[j] = false) (fun _ => []) (fun k => L.length - k) 0 ⟨rfl, rfl, rfl, rfl, trivial⟩ ⟨Nat.zero_le _, fun _ _ h => absurd h (Nat.not_lt_zero _)⟩ (fun _ h => h) fun k ⟨hk, hno⟩ => ?_
  by_cases hk' : k < L.length
  · obtain ⟨b, off, rfl, hcell⟩ := hA.at_ (by omega)
    have hs := hS _ (List.getElem_mem hk')
    (repeat refine s_ ?_)
    refine l_w rfl (v_load0 rfl rfl (fun h => h) (hcell k hk')) ?_
    refine l_opg rfl (o_pureF (fs := []) (cs := []) rfl (by kernel_rfl) rfl rfl rfl fun w1 _ => show Pu _ _ #[.string L[k]] _ _ from bad_calls L[k] hs w1) fun _ => ?_
    (repeat refine s_ ?_)
    refine t_if rfl rfl (fun h => ?_) (fun h => ?_)
    · (repeat refine s_ ?_)
      refine x_pu rfl rfl ?_
      have : L.findIdx? badB = some k := List.findIdx?_eq_some_iff_getElem.2 ⟨hk', h, fun j hj => by rw [hno j (by omega) hj]; simp⟩
      rw [ixB, this]
    · (repeat refine s_ ?_)
      refine x_round (k + 1) ⟨rfl, rfl, rfl, rfl, trivial⟩ ⟨hk', fun j hj hjk => ?_⟩ (fun _ h => h) (by omega)
      by_cases e : j = k
      · subst e; simpa using h
      · exact hno j hj (by omega)
  · obtain rfl : k = L.length := by omega
    (repeat refine s_ ?_)
    refine x_pu rfl rfl ?_
    have : L.findIdx? badB = none := List.findIdx?_eq_none_iff.2 fun s hs => by
      obtain ⟨i, hi, rfl⟩ := List.getElem_of_mem hs
      exact hno i hi hi
    rw [ixB, this]
theorem ixB_any (L : List ByteArray) : decide (ixB L ≥ 0) = L.any badB := by
  unfold ixB
  cases h : L.findIdx? badB with
  | none =>
    rw [List.findIdx?_eq_none_iff] at h
    rw [show L.any badB = false from List.any_eq_false.2 fun x hx => by rw [h x hx]; simp]
    rfl
  | some i =>
    obtain ⟨hi, h2, -⟩ := List.findIdx?_eq_some_iff_getElem.1 h
    rw [show L.any badB = true from List.any_eq_true.2 ⟨_, List.getElem_mem hi, h2⟩]
    simp
theorem contf_calls (a : Option Addr) (c : Nat) (L : List ByteArray) (hL : L.length < 9223372036854775807) (hS : ∀ s ∈ L, s.size < 9223372036854775807) (w : World) (hA : StrL w a c L) : Pu Tryd.prog 27 #[.slice a L.length c, .func (.func 28) #[] #[]] w (.bool (L.any badB)) := by
  refine pu_of [_, _] Tryd.func27 rfl rfl ?_
  simp only [argSlots, Nat.reduceAdd]
  (repeat refine s_ ?_)
  refine l_opg rfl (o_pure rfl (by kernel_rfl) rfl (fun w1 hw1 => indexf_calls a c L hL hS w1 (hA.keep hw1))) fun _ => ?_
  (repeat refine s_ ?_)
  exact x_pu rfl rfl (by rw [ixB_any])
/-- The error of pieces. -/
def errP (L : List ByteArray) : Int := if L.any badB then 7 else if 16 < L.length then 6 else 0
theorem spl_sizes (s : ByteArray) : ∀ t ∈ pcL s, t.size ≤ s.size := by
  intro t ht
  simp only [pcL, baL, List.mem_map] at ht
  obtain ⟨p, hp, rfl⟩ := ht
  have := spl_le _ p hp
  rw [size_list] at this
  exact this
theorem spl_count (s : ByteArray) : (pcL s).length ≤ s.size + 1 := by
  rw [← pcL_len, spl_len, ← size_list]
  have := List.count_le_length (a := (47 : UInt8)) (l := s.data.toList)
  omega
theorem own_strs {w : World} {e : TypeId} {c : Nat} {L : List ByteArray} (h : (own e 1 (some (c, L.length)) L.length (strs L)).prop w) : StrL w (some ⟨c, 0, none⟩) L.length L := (own_StrL h).2
theorem errP_any {L : List ByteArray} (h : errP L ≠ 7) : L.any badB = false := by
  cases h2 : L.any badB with
  | false => rfl
  | true => rw [errP, h2] at h; exact absurd rfl h
theorem pieces_ok (s : ByteArray) (hs : s.size < 4000000000) (w : World) (he : errP (pcL s) = 0) : Ct Tryd.prog 19 #[.string s] w none' (fun c : Nat => .tuple #[.slice (some ⟨c, 0, none⟩) (pcL s).length (pcL s).length, .int .i64 0]) (fun _ => True) (fun c => [own 9 1 (some (c, (pcL s).length)) (pcL s).length (strs (pcL s))]) := by
  have hc := spl_count s
  have hz := spl_sizes s
  have hany := errP_any (L := pcL s) (by rw [he]; decide)
  have h16 : (pcL s).length ≤ 16 := by
    rw [errP, hany] at he
    simp at he; omega
  refine ct_of [_] Tryd.func19 rfl rfl ?_
  simp only [argSlots]
  (repeat refine s_ ?_)
  refine l_ctg rfl rfl (by kernel_rfl) rfl (fun w1 hw1 => split_calls s hs w1) fun x hx => ?_
  (repeat refine s_ ?_)
  refine l_opg rfl (o_pure rfl (by kernel_rfl) rfl (fun w1 hw1 => contf_calls _ _ (pcL s) (by omega) (fun t ht => by have := hz t ht; omega) w1 (own_strs (hw1.item _ (.head _)).1))) fun _ => ?_
  rw [hany]
  (repeat refine s_ ?_)
  exact x_ct2 x rfl rfl rfl rfl trivial (List.Sublist.refl _) (by simp [own_stable])
theorem pieces_bad (s : ByteArray) (hs : s.size < 4000000000) (w : World) (he : errP (pcL s) ≠ 0) : Pu Tryd.prog 19 #[.string s] w (.tuple #[.slice none 0 0, .int .i64 (errP (pcL s))]) := by
  have hc := spl_count s
  have hz := spl_sizes s
  refine pu_of [_] Tryd.func19 rfl rfl ?_
  simp only [argSlots]
  (repeat refine s_ ?_)
  refine l_ctg rfl rfl (by kernel_rfl) rfl (fun w1 hw1 => split_calls s hs w1) fun x hx => ?_
  (repeat refine s_ ?_)
  refine l_opg rfl (o_pure rfl (by kernel_rfl) rfl (fun w1 hw1 => contf_calls _ _ (pcL s) (by omega) (fun t ht => by have := hz t ht; omega) w1 (own_strs (hw1.item _ (.head _)).1))) fun _ => ?_
  cases hany : (pcL s).any badB with
  | true =>
    (repeat refine s_ ?_)
    exact x_pu2 rfl rfl rfl (by rw [errP, hany]; rfl)
  | false =>
    have h16 : 16 < (pcL s).length := by
      rw [errP, hany] at he
      simp at he; omega
    (repeat refine s_ ?_)
    exact x_pu2 rfl rfl rfl (by rw [errP, hany, if_neg (by simp), if_pos h16])
theorem match_ok (s : ByteArray) (hs : s.size < 4000000000) (b0 : Option Addr) (c0 : Nat) (M : List ByteArray) (hM : M.length < 9223372036854775807) (hsM : ∀ s ∈ M, s.size < 9223372036854775807) (w : World) (he : errP (pcL s) = 0) (hB : StrL w b0 c0 M) : Pu Tryd.prog 10 #[.string s, .slice b0 M.length c0] w (.tuple #[.bool (tel (spl s.data.toList) (bsOf M)), .int .i64 0]) := by
  have hz := spl_sizes s
  have hany := errP_any (L := pcL s) (by rw [he]; decide)
  have h16 : (pcL s).length ≤ 16 := by
    rw [errP, hany] at he
    simp at he; omega
  refine pu_of [_, _] Tryd.func10 rfl rfl ?_
  simp only [argSlots, Nat.reduceAdd]
  (repeat refine s_ ?_)
  refine l_ctg rfl rfl (by kernel_rfl) rfl (fun w1 hw1 => pieces_ok s hs w1 he) fun x hx => ?_
  (repeat refine s_ ?_)
  refine l_opg rfl (o_pure rfl (by kernel_rfl) rfl (fun w1 hw1 => tells_calls _ _ (pcL s) h16 b0 c0 M hM w1 (fun t ht => by have := hz t ht; omega) hsM (own_strs (hw1.item _ (.head _)).1) (hB.keep hw1))) fun _ => ?_
  (repeat refine s_ ?_)
  exact x_pu2 rfl rfl rfl (by rw [pcL_bs])
theorem match_bad (s : ByteArray) (hs : s.size < 4000000000) (v : Value) (w : World) (he : errP (pcL s) ≠ 0) : Pu Tryd.prog 10 #[.string s, v] w (.tuple #[.bool false, .int .i64 (errP (pcL s))]) := by
  refine pu_of [_, _] Tryd.func10 rfl rfl ?_
  simp only [argSlots, Nat.reduceAdd]
  (repeat refine s_ ?_)
  refine l_opg rfl (o_pure rfl (by kernel_rfl) rfl (fun w1 hw1 => pieces_bad s hs w1 he)) fun _ => ?_
  (repeat refine s_ ?_)
  exact x_pu2 rfl rfl rfl rfl
end Go.Proofs.YtndlmdpljciilaaDoor
