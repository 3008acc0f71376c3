/- strings.Split at a slash, and the document's Split. -/
import Derived.Test.YtndlmdpljciilaaDoorFine
namespace Go.Proofs.YtndlmdpljciilaaDoor
open Go.RowKit Go.Eng Go.Eng.Pc
set_option maxRecDepth 100000
set_option maxHeartbeats 40000000
def sl : ByteArray := ⟨#[47]⟩
theorem sl_size : (⟨#[47]⟩ : ByteArray).size = 1 := rfl
theorem sl_ne : ¬ ((⟨#[47]⟩ : ByteArray) = ⟨#[]⟩) := by decide
theorem idx_cases (l : Bs) : (Lib.indexByte l 47 = -1 ∧ ∀ c ∈ l, (c == 47) = false) ∨ ∃ p r, l = p ++ 47 :: r ∧ (∀ c ∈ p, (c == 47) = false) ∧ Lib.indexByte l 47 = (p.length : Nat) := by
  induction l with
  | nil => exact .inl ⟨rfl, fun _ h => nomatch h⟩
  | cons c l ih =>
    by_cases hc : c = 47
    · subst hc
      exact .inr ⟨[], l, rfl, fun _ h => (nomatch h), by simp [Lib.indexByte]⟩
    · rcases ih with ⟨h1, h2⟩ | ⟨p, r, h1, h2, h3⟩
      · refine .inl ⟨by simp [Lib.indexByte, hc, h1], fun d hd => ?_⟩
        rcases List.mem_cons.1 hd with rfl | hd
        · simpa using hc
        · exact h2 d hd
      · refine .inr ⟨c :: p, r, by rw [h1]; rfl, fun d hd => ?_, ?_⟩
        · rcases List.mem_cons.1 hd with rfl | hd
          · simpa using hc
          · exact h2 d hd
        · simp only [Lib.indexByte]
          rw [if_neg (by simpa using hc), h3, if_neg (by simp)]
          simp
theorem indexByte_calls (s : ByteArray) (w : World) : Pu Tryd.prog 78 #[.string s, .int .u8 47] w (.int .i64 (Lib.indexByte s.data.toList 47)) := by
  refine pu_of [_, _] Tryd.func78 rfl rfl ?_
  simp only [argSlots, Nat.reduceAdd]
  (repeat refine s_ ?_)
  refine l_w rfl (v_ext (vs := [.string s, .int .u8 47]) Tryd.func83 (by kernel_rfl) (by kernel_rfl) (by kernel_rfl) (E := Extern.BytealgIndexByte.indexByte) (by kernel_rfl) rfl fun w => Lib.run_indexByteString s 47 w) ?_
  (repeat refine s_ ?_)
  exact x_pu rfl rfl rfl
theorem lindex_calls (s : ByteArray) (hs : s.size < 9223372036854775807) (w : World) : Pu Tryd.prog 69 #[.string s, .string ⟨#[47]⟩] w (.int .i64 (Lib.indexByte s.data.toList 47)) := by
  have h1 := sl_size
  by_cases he : (⟨#[47]⟩ : ByteArray) = s
  · subst he
    refine pu_of [_, _] Tryd.func69 rfl rfl ?_
    simp only [argSlots, Nat.reduceAdd]
    (repeat refine s_ ?_)
    exact x_pu rfl rfl rfl
  · refine pu_of [_, _] Tryd.func69 rfl rfl ?_
    simp only [argSlots, Nat.reduceAdd]
    (repeat refine s_ ?_)
    refine l_opg rfl (o_pure rfl (by kernel_rfl) rfl (fun w1 hw1 => indexByte_calls s w1)) fun _ => ?_
    (repeat refine s_ ?_)
    exact x_pu rfl rfl rfl
theorem index_calls (s : ByteArray) (hs : s.size < 9223372036854775807) (w : World) : Pu Tryd.prog 55 #[.string s, .string ⟨#[47]⟩] w (.int .i64 (Lib.indexByte s.data.toList 47)) := by
  refine pu_of [_, _] Tryd.func55 rfl rfl ?_
  simp only [argSlots, Nat.reduceAdd]
  (repeat refine s_ ?_)
  refine l_opg rfl (o_pure rfl (by kernel_rfl) rfl (fun w1 hw1 => lindex_calls s hs w1)) fun _ => ?_
  (repeat refine s_ ?_)
  exact x_pu rfl rfl rfl
theorem count_calls (s : ByteArray) (_hs : s.size < 9223372036854775807) (w : World) : Pu Tryd.prog 54 #[.string s, .string ⟨#[47]⟩] w (.int .i64 (s.data.toList.count 47 : Nat)) := by
  have h1 := sl_size
  refine pu_of [_, _] Tryd.func54 rfl rfl ?_
  simp only [argSlots, Nat.reduceAdd]
  (repeat refine s_ ?_)
  refine l_w rfl (v_ext (vs := [.string s, .int .u8 47]) Tryd.func68 (by kernel_rfl) (by kernel_rfl) (by kernel_rfl) (E := Extern.BytealgCount.count) (by kernel_rfl) rfl fun w => Lib.run_countString s 47 w) ?_
  (repeat refine s_ ?_)
  exact x_pu rfl rfl rfl
theorem spl_one {l : Bs} (h : (spl l).length = 1) : spl l = [l] := by
  refine spl_none l fun c hc => ?_
  rw [spl_len] at h
  have h0 : l.count 47 = 0 := by omega
  rw [List.count_eq_zero] at h0
  exact beq_eq_false_iff_ne.2 fun e => h0 (e ▸ hc)
def pcs (L : List Bs) (n i : Nat) : List Value := (strs (baL (L.take i))) ++ List.replicate (n - i) (.string ⟨#[]⟩)
theorem pcs_set {L : List Bs} {n i : Nat} (h : i < n) (hL : L.length = n) : (pcs L n i).set i (.string ⟨(L[i]'(by omega)).toArray⟩) = pcs L n (i + 1) := by
  have hl : (strs (baL (L.take i))).length = i := by simp [strs, baL]; omega
  rw [pcs, List.set_append_right _ _ (by omega), hl, Nat.sub_self, pcs, List.take_succ_eq_append_getElem (by omega)]
  rw [show n - i = (n - (i + 1)) + 1 by omega, List.replicate_succ, List.set_cons_zero]
  simp only [strs, baL, List.map_append, List.map_cons, List.map_nil, List.append_assoc, List.singleton_append]
theorem pcs_all {L : List Bs} {n : Nat} (hL : L.length = n) : pcs L n n = strs (baL L) := by
  simp [pcs, ← hL]
theorem extract_toList (s : ByteArray) (i j : Nat) : (s.extract i j).data.toList = (s.data.toList.take j).drop i := by
  simp [ByteArray.data_extract, Array.toList_extract, List.extract_eq_take_drop, List.drop_take]
theorem genSplit_calls (s : ByteArray) (hs : s.size < 4000000000) (w : World) : Ct Tryd.prog 42 #[.string s, .string ⟨#[47]⟩, .int .i64 0, .int .i64 (-1)] w none' (fun c : Nat => .slice (some ⟨c, 0, none⟩) (spl s.data.toList).length (spl s.data.toList).length) (fun _ => True) (fun c => [own 9 1 (some (c, (spl s.data.toList).length)) (spl s.data.toList).length (strs (baL (spl s.data.toList)))]) := by
  have h1 := sl_size
  have h2 := sl_ne
  have hlen := spl_len s.data.toList
  have hcnt : s.data.toList.count 47 ≤ s.size := by rw [← size_list]; exact List.count_le_length
  generalize hn : (spl s.data.toList).length = n at hlen ⊢
  refine ct_of [_, _, _, _] Tryd.func42 rfl rfl ?_
  simp only [argSlots, Nat.reduceAdd]
  (repeat refine s_ ?_)
  refine l_opg rfl (o_pure rfl (by kernel_rfl) rfl (fun w1 hw1 => count_calls s (by omega) w1)) fun _ => ?_
  (repeat refine s_ ?_)
  refine l_w rfl (v_min rfl rfl) ?_
  rw [show min (s.data.toList.count 47 + 1) (s.size + 1) = n by omega]
  (repeat refine s_ ?_)
  refine l_op rfl (o_makeown rfl rfl rfl rfl rfl rfl (by omega) (by omega)) fun ⟨c, hc⟩ => ?_
  (repeat refine s_ ?_)
  refine t_for (α := Nat × ByteArray) (fun y => [(0, .string y.2), (1, .string ⟨#[47]⟩), (2, .int .i64 0), (3, .int .i64 (n - 1 : Nat)), (9, .slice (some ⟨c, 0, none⟩) n n), (10, .int .i64 y.1)]) (fun y => y.1 < n ∧ y.2.size ≤ s.size ∧ spl y.2.data.toList = (spl s.data.toList).drop y.1) (fun y => [own 9 1 (some (c, n)) n (pcs (spl s.data.toList) n y.1)]) (fun y => n - y.1) (0, s) ⟨rfl, rfl, rfl, rfl, rfl, rfl, trivial⟩ ⟨by omega, Nat.le_refl _, rfl⟩ (fun w h => by simpa [pcs, strs, baL] using h) fun ⟨i, t⟩ ⟨hi, ht, hsp⟩ => ?_
  simp only at hi ht hsp ⊢
  have hpl : (spl t.data.toList).length = n - i := by rw [hsp, List.length_drop, hn]
  by_cases hi' : i < n - 1
  · rcases idx_cases t.data.toList with ⟨-, h4⟩ | ⟨p, r, h4, h5, h6⟩
    · rw [spl_none _ h4] at hpl; simp at hpl; omega
    have h7 := spl_first p r h5 (c := 47) rfl
    rw [← h4, hsp] at h7
    have hp1 : (spl s.data.toList)[i]'(by omega) = p := by
      have := congrArg (fun l => l[0]?) h7
      simpa [List.getElem?_drop, List.getElem?_eq_getElem (show i < (spl s.data.toList).length by omega)] using this
    have htl : t.size = p.length + 1 + r.length := by rw [← size_list, h4]; simp; omega
    have he1 : t.extract 0 p.length = ⟨p.toArray⟩ := ba_ext (by rw [extract_toList, h4]; simp)
    have he2 : (t.extract (p.length + 1) t.size).data.toList = r := by rw [drop_extract, h4]; simp
    have hst := pcs_set (L := spl s.data.toList) (show i < n by omega) hn
    rw [hp1] at hst
    (repeat refine s_ ?_)
    refine l_opg rfl (o_pure rfl (by kernel_rfl) rfl (fun w1 hw1 => index_calls t (by omega) w1)) fun _ => ?_
    rw [h6]
    (repeat refine s_ ?_)
    rw [Nat.add_zero, he1]
    refine l_op rfl (o_setown rfl rfl rfl rfl rfl rfl (by omega)) fun _ => ?_
    rw [Nat.zero_add, hst]
    (repeat refine s_ ?_)
    refine x_round (i + 1, t.extract (p.length + 1) t.size) ⟨rfl, rfl, rfl, rfl, rfl, rfl, trivial⟩ ⟨show i + 1 < n by omega, by simp; omega, ?_⟩ (fun _ h => h) (by show n - (i + 1) < n - i; omega)
    show spl (t.extract (p.length + 1) t.size).data.toList = _
    rw [he2, ← List.drop_drop, h7]
    rfl
  · have hi1 : i = n - 1 := by omega
    have h7 := spl_one (l := t.data.toList) (by omega)
    rw [hsp] at h7
    have hp1 : (spl s.data.toList)[i]'(by omega) = t.data.toList := by
      have := congrArg (fun l => l[0]?) h7
      simpa [List.getElem?_drop, List.getElem?_eq_getElem (show i < (spl s.data.toList).length by omega)] using this
    have hst := pcs_set (L := spl s.data.toList) (show i < n by omega) hn
    rw [hp1, show (⟨t.data.toList.toArray⟩ : ByteArray) = t from baOf_list t, show i + 1 = n by omega, pcs_all hn] at hst
    (repeat refine s_ ?_)
    refine l_op rfl (o_setown rfl rfl rfl rfl rfl rfl (by omega)) fun _ => ?_
    rw [Nat.zero_add, hst]
    (repeat refine s_ ?_)
    refine l_w rfl (v_lT rfl rfl rfl rfl (by omega)) ?_
    (repeat refine s_ ?_)
    exact x_ct c rfl rfl (by rw [show i + 1 = n by omega]) trivial (List.Sublist.refl _) (by simp [own_stable])
/-- The pieces of a text. -/
def pcL (s : ByteArray) : List ByteArray := baL (spl s.data.toList)
theorem pcL_len (s : ByteArray) : (spl s.data.toList).length = (pcL s).length := by simp [pcL, baL]
theorem pcL_bs (s : ByteArray) : bsOf (pcL s) = spl s.data.toList := bsOf_baL _
theorem split_calls (s : ByteArray) (hs : s.size < 4000000000) (w : World) : Ct Tryd.prog 26 #[.string s, .string ⟨#[47]⟩] w none' (fun c : Nat => .slice (some ⟨c, 0, none⟩) (pcL s).length (pcL s).length) (fun _ => True) (fun c => [own 9 1 (some (c, (pcL s).length)) (pcL s).length (strs (pcL s))]) := by
  have hg := fun w => genSplit_calls s hs w
  rw [pcL_len] at hg
  refine ct_of [_, _] Tryd.func26 rfl rfl ?_
  simp only [argSlots, Nat.reduceAdd]
  (repeat refine s_ ?_)
  refine l_ctg rfl rfl (by kernel_rfl) rfl (fun w1 hw1 => hg w1) fun x hx => ?_
  (repeat refine s_ ?_)
  exact x_ct x rfl rfl rfl trivial (List.Sublist.refl _) (by simp [own_stable])
end Go.Proofs.YtndlmdpljciilaaDoor
