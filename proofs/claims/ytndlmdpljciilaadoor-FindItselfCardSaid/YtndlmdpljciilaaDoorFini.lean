/- The document's Split and Pieces; what wakes. -/
import Derived.Test.YtndlmdpljciilaaDoorFinh
namespace Go.Proofs.YtndlmdpljciilaaDoor
open Go.RowKit Go.Eng Go.Eng.Pc
set_option maxRecDepth 100000
set_option maxHeartbeats 40000000
structure SG where
  i : Nat
  from_ : Nat
  o : Option (Nat × Nat)
  out : List ByteArray
def SGood (s : ByteArray) (y : SG) : Prop := y.i ≤ s.size + 1 ∧ y.out.length ≤ y.i ∧ (y.i ≤ s.size → y.from_ ≤ y.i ∧ spl s.data.toList = bsOf y.out ++ glue ((s.data.toList.take y.i).drop y.from_) (spl (s.data.toList.drop y.i))) ∧ (y.i = s.size + 1 → spl s.data.toList = bsOf y.out)
theorem strs_snoc (L : List ByteArray) (s : ByteArray) : strs (L ++ [s]) = strs L ++ [.string s] := by simp [strs]
theorem bsOf_snoc (L : List ByteArray) (s : ByteArray) : bsOf (L ++ [s]) = bsOf L ++ [s.data.toList] := by simp [bsOf]
theorem pcL_of {s : ByteArray} {L : List ByteArray} (h : spl s.data.toList = bsOf L) : pcL s = L := by
  rw [pcL, h, baL, bsOf, List.map_map]
  exact (List.map_congr_left fun a _ => baOf_list a).trans (List.map_id _)
theorem rsplit_calls (s : ByteArray) (hs : s.size < 4000000000) (w : World) : Ct Tryd.prog 21 #[.string s] w none' (fun o : Option (Nat × Nat) => slV o (pcL s).length) (fun _ => True) (fun o => [own 9 1 o (pcL s).length (strs (pcL s))]) := by
  refine ct_of [_] Tryd.func21 rfl rfl ?_
  simp only [argSlots]
  (repeat refine s_ ?_)
  refine t_for (α := SG) (fun y => [(0, .string s), (3, slV y.o y.out.length), (4, .int .i64 y.from_), (5, .int .i64 y.i)]) (SGood s) (fun y => [own 9 1 y.o y.out.length (strs y.out)]) (fun y => s.size + 1 - y.i) ⟨0, 0, none, []⟩ ⟨rfl, rfl, rfl, rfl, trivial⟩ ⟨Nat.zero_le _, Nat.le_refl _, fun _ => ⟨Nat.le_refl _, ?_⟩, fun h => absurd h (by simp)⟩ (fun w h => ?_) fun ⟨i, fr, o, out⟩ ⟨h1, h2, h3, h4⟩ => ?_
  · rw [List.drop_zero, List.take_zero]
    exact (glue_nil (spl_ne _)).symm
  · exact Hp.call0 (L := [own _ 1 none 0 []]) h ⟨.refl _ _, fun it hm => by
      obtain rfl : it = own 9 1 none 0 [] := by simpa using hm
      exact ⟨⟨rfl, rfl⟩, own_stable _ _ _ _ _ _, fun k ⟨c, h⟩ => by cases h⟩, .cons (fun _ h => by cases h) .nil⟩
  simp only at h1 h2 h3 h4 ⊢
  by_cases hi : i ≤ s.size
  · obtain ⟨h5, h6⟩ := h3 hi
    clear h3 h4
    by_cases hcut : i = s.size ∨ ∃ h : i < s.size, (s[i].toNat : Int) = 47
    · have hsplit : spl s.data.toList = bsOf (out ++ [s.extract fr i]) ++ (if i = s.size then [] else spl (s.data.toList.drop (i + 1))) := by
        rw [bsOf_snoc, extract_toList, List.append_assoc, h6]
        congr 1
        by_cases e : i = s.size
        · rw [if_pos e, drop_all s (by omega), glue_end]; rfl
        · obtain ⟨h7, h8⟩ := hcut.resolve_left e
          rw [if_neg e, drop_at s h7, glue_at (by rw [← beq_byte]; exact beq_t h8)]; rfl
      have hr : SGood s ⟨i + 1, i + 1, o, out ++ [s.extract fr i]⟩ := by
        refine ⟨by simp; omega, by simp; omega, fun h => ⟨Nat.le_refl _, ?_⟩, fun h => ?_⟩
        · simp only at h ⊢
          rw [hsplit, if_neg (by omega), List.drop_take_self, glue_nil (spl_ne _)]
        · simp only at h ⊢
          rw [hsplit, if_pos (by omega), List.append_nil]
      rcases hcut with e | ⟨h7, h8⟩
      all_goals
        (repeat refine s_ ?_)
        refine l_op rfl (o_buildslice rfl rfl rfl rfl rfl rfl) fun ⟨b, hb⟩ => ?_
        refine l_op rfl (ho_perm (.swap _ _ _) (o_append (news := [.string (s.extract fr i)]) rfl rfl rfl rfl rfl rfl rfl rfl (by omega) fun w hw j v hj => ?_)) fun o' => ?_
        · rw [add_at, Nat.zero_add]
          exact own_rd (hw.item _ (.tail _ (.head _))).1 j v hj
        (repeat refine s_ ?_)
        refine x_round ⟨i + 1, i + 1, o', out ++ [s.extract fr i]⟩ ⟨rfl, by rw [List.length_append]; rfl, rfl, rfl, trivial⟩ hr (fun w h => h.sub ?_) (by show s.size + 1 - (i + 1) < s.size + 1 - i; omega)
        simp only [strs_snoc, List.length_append, List.length_singleton]
        exact .cons_cons _ (List.nil_sublist _)
    · have e : ¬ i = s.size := fun h => hcut (.inl h)
      have h7 : i < s.size := by omega
      have h8 : ¬ (s[i].toNat : Int) = 47 := fun h => hcut (.inr ⟨h7, h⟩)
      (repeat refine s_ ?_)
      refine x_round ⟨i + 1, fr, o, out⟩ ⟨rfl, rfl, rfl, rfl, trivial⟩ ⟨by simp; omega, by simp; omega, fun _ => ⟨by simp; omega, ?_⟩, fun h => ?_⟩ (fun w h => h) (by show s.size + 1 - (i + 1) < s.size + 1 - i; omega)
      · simp only
        rw [h6, drop_at s h7, glue_on (by rw [← beq_byte]; exact beq_f h8)]
        congr 2
        rw [List.take_succ_eq_append_getElem (by simpa using h7), List.drop_append_of_le_length (by simp; omega)]
        rfl
      · simp only at h
        omega
  · have hp := pcL_of (h4 (by omega))
    (repeat refine s_ ?_)
    exact x_ct o rfl rfl (by rw [hp]) trivial (by rw [hp]; exact .refl _) (by simp [own_stable])
theorem badB_iff (s : ByteArray) : badB s = true ↔ s.size < 1 ∨ 32 < s.size := by
  unfold badB
  rw [Bool.or_eq_true, seq_iff, nil_iff, decide_eq_true_eq]
  omega
theorem any_take {L : List ByteArray} {k : Nat} (h : k < L.length) : (L.take (k + 1)).any badB = ((L.take k).any badB || badB L[k]) := by
  rw [List.take_succ_eq_append_getElem h, List.any_append]; simp
theorem slV_eq {w : World} {e : TypeId} {n : Nat} {o : Option (Nat × Nat)} {L : List ByteArray} (h : (own e 1 o n (strs L)).prop w) : slV o n = .slice (slA o) n (slC o) := (own_val h).1
theorem rpieces_calls (s : ByteArray) (hs : s.size < 4000000000) (w : World) : Ct Tryd.prog 11 #[.string s] w none' (fun o : Option (Nat × Nat) => .tuple #[if errP (pcL s) = 0 then .slice (slA o) (pcL s).length (slC o) else .slice none 0 0, .int .i64 (errP (pcL s))]) (fun _ => True) (fun o => [own 9 1 o (pcL s).length (strs (pcL s))]) := by
  have hc := spl_count s
  have hz := spl_sizes s
  refine ct_of [_] Tryd.func11 rfl rfl ?_
  simp only [argSlots]
  (repeat refine s_ ?_)
  refine l_ctg rfl rfl (by kernel_rfl) rfl (fun w1 hw1 => rsplit_calls s hs w1) fun x hx => ?_
  refine l_fact (fun w hw => slV_eq (hw.item _ (.head _)).1) fun hv => ?_
  have hst : ∀ w', Hp w none' [own 9 1 x (pcL s).length (strs (pcL s))] w' → StrL w' (slA x) (slC x) (pcL s) := fun w hw => (own_StrL (hw.item _ (.head _)).1).2
  rw [hv]
  (repeat refine s_ ?_)
  refine t_for (α := Nat) (fun k => [(0, .string s), (4, .slice (slA x) (pcL s).length (slC x)), (5, .int .i64 k)]) (fun k => k ≤ (pcL s).length ∧ ((pcL s).take k).any badB = false) (fun _ => [own 9 1 x (pcL s).length (strs (pcL s))]) (fun k => (pcL s).length - k) 0 ⟨rfl, rfl, rfl, trivial⟩ ⟨Nat.zero_le _, rfl⟩ (fun _ h => h) fun k ⟨hk, hno⟩ => ?_
  by_cases hk' : k < (pcL s).length
  · match x, hst with
    | none, hst =>
      refine t_fact (fun w hw => show False from ?_) fun h => h.elim
      obtain ⟨b, off, h, -⟩ := (hst w hw).at_ (by omega)
      cases h
    | some (b, c), hst =>
      have hcell : ∀ w', Hp w none' [own 9 1 (some (b, c)) (pcL s).length (strs (pcL s))] w' → w'.cell? ⟨b, 0 + k, none⟩ = some (.string (pcL s)[k]) := fun w hw => by
        obtain ⟨b', off, h, h2⟩ := (hst w hw).at_ (by omega)
        simp only [slA, Option.some.injEq, Addr.mk.injEq, and_true] at h
        obtain ⟨rfl, rfl⟩ := h
        exact h2 k hk'
      have hsz := hz _ (List.getElem_mem hk')
      have hbad := badB_iff (pcL s)[k]
      simp only [slA]
      (repeat refine s_ ?_)
      refine l_w rfl (v_load rfl rfl hcell) ?_
      by_cases hb : (pcL s)[k].size < 1 ∨ 32 < (pcL s)[k].size
      · have herr : errP (pcL s) = 7 := by rw [errP, if_pos (List.any_eq_true.2 ⟨_, List.getElem_mem hk', hbad.2 hb⟩)]
        by_cases h1 : (pcL s)[k].size < 1
        · (repeat refine s_ ?_)
          exact x_ct2 (some (b, c)) rfl rfl rfl (by rw [herr]; rfl) trivial (List.Sublist.refl _) (by simp [own_stable])
        · have h32 : 32 < (pcL s)[k].size := hb.resolve_left h1
          (repeat refine s_ ?_)
          refine l_w rfl (v_load rfl rfl hcell) ?_
          (repeat refine s_ ?_)
          exact x_ct2 (some (b, c)) rfl rfl rfl (by rw [herr]; rfl) trivial (List.Sublist.refl _) (by simp [own_stable])
      · have hbf : badB (pcL s)[k] = false := by
          cases h : badB (pcL s)[k] with
          | false => rfl
          | true => exact absurd (hbad.1 h) hb
        have h1 : ¬ (pcL s)[k].size < 1 := fun h => hb (.inl h)
        have h2 : ¬ 32 < (pcL s)[k].size := fun h => hb (.inr h)
        (repeat refine s_ ?_)
        refine l_w rfl (v_load rfl rfl hcell) ?_
        (repeat refine s_ ?_)
        exact x_round (k + 1) ⟨rfl, rfl, rfl, trivial⟩ ⟨hk', by rw [any_take hk', hno, hbf]; rfl⟩ (fun _ h => h) (by omega)
  · have hk1 : k = (pcL s).length := by omega
    rw [hk1, List.take_length] at hno
    by_cases h16 : 16 < (pcL s).length
    · have herr : errP (pcL s) = 6 := by rw [errP, hno, if_neg (by simp), if_pos h16]
      (repeat refine s_ ?_)
      exact x_ct2 x rfl rfl rfl (by rw [herr]; rfl) trivial (List.Sublist.refl _) (by simp [own_stable])
    · have herr : errP (pcL s) = 0 := by rw [errP, hno, if_neg (by simp), if_neg h16]
      (repeat refine s_ ?_)
      exact x_ct2 x rfl rfl rfl (by rw [herr]; rfl) trivial (List.Sublist.refl _) (by simp [own_stable])
end Go.Proofs.YtndlmdpljciilaaDoor
