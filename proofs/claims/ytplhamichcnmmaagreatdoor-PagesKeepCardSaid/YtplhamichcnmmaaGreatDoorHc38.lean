/- The document's pages (armariumref08): Put, Alloc, Free, Abort, Commit, New. -/
/- The document's pages (armariumref08): Alloc, Commit, New. -/
import Derived.Test.YtplhamichcnmmaaGreatDoorHc37
namespace Go.Eng
open Go.RowKit
theorem t_own {P : Program} {cd : Code} {Q : Exit → Act → World → Prop} {N : Fm} {l : Slots} {w0 : World} {F : Nat → Prop} {m : List Item} {e : TypeId} {sz n : Nat} {o : Option (Nat × Nat)} {xs : List Value} (hn : 0 < n)
    (h : ∀ (b c : Nat) (cur : Array Value), o = some (b, c) → n ≤ c → cur.size = c * sz → cur.toList.take (n * sz) = xs → HT P cd Q N l (Hp w0 F (pt b (.cells cur e (0, 0)) :: m))) : HT P cd Q N l (Hp w0 F (own e sz o n xs :: m)) := by
  unfold HT at *
  intro a w s hw
  have hp := (hw.item (own e sz o n xs) (.head _)).1
  obtain ⟨h1, h2⟩ := hp
  cases o with
  | none => exact absurd h2 (by show ¬ n = 0; omega)
  | some p =>
    obtain ⟨b, c⟩ := p
    obtain ⟨h3, -, cur, h4, h5, h6⟩ := h2
    refine h b c cur rfl h3 h5 h6 a w s (hw.imp (fun k hk => ⟨c, by rw [show k = b from hk]⟩) (fun _ => h4) ((pt_stable _ _ _)))
end Go.Eng
namespace Go.Proofs.YtplhamichcnmmaaGreatDoor
open Go.RowKit Go.Eng Go.Eng.Bm
set_option maxRecDepth 100000
set_option maxHeartbeats 40000000
def rsI (b : Nat) (V : List Bys) : Eng.Item := ⟨fun k => k = b, fun w => w.rangeAt b 0 (strsV V) ∧ b < w.heap.size⟩
theorem rsI_stable (b : Nat) (V : List Bys) : (rsI b V).Stable none' := fun w w' h ⟨hp, hl⟩ => by
  have hb := h b (.inr rfl)
  refine ⟨fun j v hj => ?_, ?_⟩
  · rw [← hp j v hj]
    exact World.cell?_of_block (w := w) hb
  · rcases Nat.lt_or_ge b w'.heap.size with h1 | h1
    · exact h1
    · rw [Array.getElem?_eq_none h1] at hb
      rw [Array.getElem?_eq_getElem hl] at hb
      cases hb
theorem rsI_rd {b : Nat} {V : List Bys} {w : World} (h : (rsI b V).prop w) : Rd w (some ⟨b, 0, none⟩) (strsV V) := Rd.mk h.1
theorem rs_of {b : Nat} {V : List Bys} {T : List Value} {E : TypeId} {w w0 : World} {F : Nat → Prop} {m : List Eng.Item} (h : Hp w0 F (pt b (.cells (strsV V ++ T).toArray E (0, 0)) :: m) w) : Hp w0 F (rsI b V :: m) w :=
  h.imp (fun _ h => h) (fun hp => ⟨by have := rangeAt_take (k := (strsV V).length) (rangeAt_pt hp); rwa [List.take_left] at this, (Array.getElem?_eq_some_iff.1 hp).1⟩) ((rsI_stable _ _).ro _)
theorem rput_bad (b c : Nat) (V : List Bys) (pm : Nat) (i : Int) (hi : i < 1 ∨ (V.length : Int) ≤ i) (s : Bys) (w : World) : Pu Tryz.prog 34 #[wV b c V pm, .int .i64 i, strV s] w (.tuple #[wV b c V pm, .int .i64 2]) := by
  refine pu_of [_, _, _] Tryz.func34 rfl rfl ?_
  simp only [argSlots, Nat.reduceAdd]
  refine goA ?_
  refine l_boxa rfl rfl fun b3 hb3 => ?_
  refine goA ?_
  refine l_alloca rfl rfl fun b6 hb6 => ?_
  refine goA ?_
  by_cases h0 : i < 1
  · refine goA ?_
    refine l_op rfl (o_storea (cs' := #[.slice (some ⟨b, 0, none⟩) V.length c, .map (some pm)]) rfl rfl rfl rfl rfl rfl) fun _ => ?_
    refine goA ?_
    exact x_pu2 rfl ⟨_, rfl, loada_run rfl (.head _)⟩ rfl rfl
  · have h1 : (V.length : Int) ≤ i := by omega
    refine goA ?_
    refine l_op rfl (o_storea (cs' := #[.slice (some ⟨b, 0, none⟩) V.length c, .map (some pm)]) rfl rfl rfl rfl rfl rfl) fun _ => ?_
    refine goA ?_
    exact x_pu2 rfl ⟨_, rfl, loada_run rfl (.head _)⟩ rfl rfl
theorem rput_ok (b c : Nat) (V : List Bys) (pm : Nat) (C : PR) (i : Nat) (h1 : 1 ≤ i) (hi : i < V.length) (s : Bys) (hs : s.length = 512) (hn : V.length ≤ 1000) (w : World) (hC : Here (mC pm C) w) :
    Ct Tryz.prog 34 #[wV b c V pm, .int .i64 (i : Int), strV s] w none' (fun pm' : Nat => .tuple #[wV b c V pm', .int .i64 0]) (fun _ => True) (fun pm' => [mC pm' (withF V.length C i s)]) := by
  refine ct_of [_, _, _] Tryz.func34 rfl rfl ?_
  have hz : (⟨s.toArray⟩ : ByteArray).size = 512 := by show s.toArray.size = 512; rw [List.size_toArray]; exact hs
  simp only [argSlots, Nat.reduceAdd]
  refine goA ?_
  refine l_boxa rfl rfl fun b3 hb3 => ?_
  refine goA ?_
  refine l_alloca rfl rfl fun b6 hb6 => ?_
  unfold strV
  refine goA ?_
  refine l_ctg rfl rfl (by kernel_rfl) rfl (fun w1 hw1 => with_calls b c V pm C i (by omega) s hn w1 (hC.keep hw1)) fun x hx => ?_
  simp only [List.cons_append, List.nil_append]
  refine goA ?_
  refine l_op rfl (ho_perm (bring1 _ _ _) (o_storea (cs' := #[.slice (some ⟨b, 0, none⟩) V.length c, .map (some x)]) rfl rfl rfl rfl rfl rfl)) fun _ => ?_
  refine goA ?_
  exact x_ct2 x rfl ⟨_, rfl, loada_run rfl (.head _)⟩ rfl rfl trivial (.cons _ (.cons_cons _ (List.nil_sublist _))) (by intro it hm; rcases hm with _ | ⟨_, hm⟩; exact mapN_stable _ _ _ _; cases hm)
theorem rfree_bad (b c : Nat) (V : List Bys) (pm : Nat) (i : Int) (hi : i < 1 ∨ (V.length : Int) ≤ i) (w : World) : Pu Tryz.prog 36 #[wV b c V pm, .int .i64 i] w (.tuple #[wV b c V pm, .int .i64 2]) := by
  refine pu_of [_, _] Tryz.func36 rfl rfl ?_
  simp only [argSlots, Nat.reduceAdd]
  refine goA ?_
  refine l_boxa rfl rfl fun b3 hb3 => ?_
  refine goA ?_
  refine l_alloca rfl rfl fun b6 hb6 => ?_
  refine goA ?_
  by_cases h0 : i < 1
  · refine goA ?_
    refine l_op rfl (o_storea (cs' := #[.slice (some ⟨b, 0, none⟩) V.length c, .map (some pm)]) rfl rfl rfl rfl rfl rfl) fun _ => ?_
    refine goA ?_
    exact x_pu2 rfl ⟨_, rfl, loada_run rfl (.head _)⟩ rfl rfl
  · have h1 : (V.length : Int) ≤ i := by omega
    refine goA ?_
    refine l_op rfl (o_storea (cs' := #[.slice (some ⟨b, 0, none⟩) V.length c, .map (some pm)]) rfl rfl rfl rfl rfl rfl) fun _ => ?_
    refine goA ?_
    exact x_pu2 rfl ⟨_, rfl, loada_run rfl (.head _)⟩ rfl rfl
theorem rfree_no (b c : Nat) (V : List Bys) (pm : Nat) (C : PR) (S : Nat → Bool) (hS : viewF V C 0 = bmB V.length S) (i : Nat) (h1 : 1 ≤ i) (hi : i < V.length) (hSi : S i = false) (hn : V.length ≤ 1000) (w : World) (hV : Rd w (some ⟨b, 0, none⟩) (strsV V)) (hC : Here (mC pm C) w) :
    Pu Tryz.prog 36 #[wV b c V pm, .int .i64 (i : Int)] w (.tuple #[wV b c V pm, .int .i64 2]) := by
  refine pu_of [_, _] Tryz.func36 rfl rfl ?_
  simp only [argSlots, Nat.reduceAdd]
  refine goA ?_
  refine l_boxa rfl rfl fun b3 hb3 => ?_
  refine goA ?_
  refine l_alloca rfl rfl fun b6 hb6 => ?_
  refine goA ?_
  refine l_opg rfl (o_pure rfl (by kernel_rfl) rfl (fun w1 hw1 => rhas_calls b c V pm C S hS i hi hn w1 (hV.keep hw1) (hC.keep hw1))) fun _ => ?_
  rw [hSi]
  refine goA ?_
  refine l_op rfl (o_storea (cs' := #[.slice (some ⟨b, 0, none⟩) V.length c, .map (some pm)]) rfl rfl rfl rfl rfl rfl) fun _ => ?_
  refine goA ?_
  exact x_pu2 rfl ⟨_, rfl, loada_run rfl (.head _)⟩ rfl rfl
theorem rfree_ok (b c : Nat) (V : List Bys) (pm : Nat) (C : PR) (S : Nat → Bool) (hS : viewF V C 0 = bmB V.length S) (i : Nat) (h1 : 1 ≤ i) (hi : i < V.length) (hSi : S i = true) (hn : V.length ≤ 1000) (w : World) (hV : Rd w (some ⟨b, 0, none⟩) (strsV V)) (hC : Here (mC pm C) w) :
    Ct Tryz.prog 36 #[wV b c V pm, .int .i64 (i : Int)] w none' (fun pm' : Nat => .tuple #[wV b c V pm', .int .i64 0]) (fun _ => True) (fun pm' => [mC pm' (withF V.length C 0 (bmB V.length (upd S i false)))]) := by
  refine ct_of [_, _] Tryz.func36 rfl rfl ?_
  simp only [argSlots, Nat.reduceAdd]
  refine goA ?_
  refine l_boxa rfl rfl fun b3 hb3 => ?_
  refine goA ?_
  refine l_alloca rfl rfl fun b6 hb6 => ?_
  refine goA ?_
  refine l_opg rfl (o_pure rfl (by kernel_rfl) rfl (fun w1 hw1 => rhas_calls b c V pm C S hS i hi hn w1 (hV.keep hw1) (hC.keep hw1))) fun _ => ?_
  rw [hSi]
  refine goA ?_
  refine l_ctg rfl rfl (by kernel_rfl) rfl (fun w1 hw1 => set_calls b c V pm C S hS i hi hn w1 (hV.keep hw1) (hC.keep hw1)) fun x hx => ?_
  rw [show (!S i) = false by rw [hSi]; rfl]
  simp only [List.cons_append, List.nil_append]
  refine goA ?_
  refine l_op rfl (ho_perm (bring1 _ _ _) (o_storea (cs' := #[.slice (some ⟨b, 0, none⟩) V.length c, .map (some x)]) rfl rfl rfl rfl rfl rfl)) fun _ => ?_
  refine goA ?_
  exact x_ct2 x rfl ⟨_, rfl, loada_run rfl (.head _)⟩ rfl rfl trivial (.cons _ (.cons_cons _ (List.nil_sublist _))) (by intro it hm; rcases hm with _ | ⟨_, hm⟩; exact mapN_stable _ _ _ _; cases hm)
theorem rabort_calls (b c : Nat) (V : List Bys) (pm : Nat) (w : World) : Ct Tryz.prog 12 #[wV b c V pm] w none' (fun pm' : Nat => wV b c V pm') (fun _ => True) (fun pm' => [mC pm' []]) := by
  refine ct_of [_] Tryz.func12 rfl rfl ?_
  simp only [argSlots]
  refine goA ?_
  refine l_boxa rfl rfl fun b1 hb1 => ?_
  refine goA ?_
  refine l_alloca rfl rfl fun b2 hb2 => ?_
  refine goA ?_
  refine l_op rfl (o_makemapN (q := .i64) rfl) fun ⟨mb, hmb⟩ => ?_
  refine goA ?_
  refine l_op rfl (ho_perm (bring1 _ _ _) (o_storea (cs' := #[.slice (some ⟨b, 0, none⟩) V.length c, .map (some mb)]) rfl rfl rfl rfl rfl rfl)) fun _ => ?_
  refine goA ?_
  exact x_ct mb rfl ⟨_, rfl, loada_run rfl (.head _)⟩ rfl trivial (.cons _ (.cons_cons _ (List.nil_sublist _))) (by intro it hm; rcases hm with _ | ⟨_, hm⟩; exact mapN_stable _ _ _ _; cases hm)
end Go.Proofs.YtplhamichcnmmaaGreatDoor

namespace Go.Proofs.YtplhamichcnmmaaGreatDoor
open Go.RowKit Go.Eng Go.Eng.Bm
set_option maxRecDepth 100000
set_option maxHeartbeats 40000000
theorem ralloc_none (b c : Nat) (V : List Bys) (pm : Nat) (C : PR) (S : Nat → Bool) (hS : viewF V C 0 = bmB V.length S) (hl : ∀ j, j < V.length → S j = true) (hn : V.length ≤ 1000) (w : World) (hV : Rd w (some ⟨b, 0, none⟩) (strsV V)) (hC : Here (mC pm C) w) :
    Pu Tryz.prog 35 #[wV b c V pm] w (.tuple #[wV b c V pm, .int .i64 (-1)]) := by
  refine pu_of [_] Tryz.func35 rfl rfl ?_
  simp only [argSlots]
  refine goA ?_
  refine l_boxa rfl rfl fun b1 hb1 => ?_
  refine goA ?_
  refine l_alloca rfl rfl fun b2 hb2 => ?_
  refine goA ?_
  refine t_for (α := Nat) (fun i => [(1, .pointer (some ⟨b1, 0, none⟩)), (2, .pointer (some ⟨b2, 0, none⟩)), (4, .int .i64 i)]) (fun i => i ≤ V.length)
    (fun _ => [pt b2 (.cells #[.slice none 0 0, .map none] 39 (0, 0)), pt b1 (.cells #[.slice (some ⟨b, 0, none⟩) V.length c, .map (some pm)] 39 (0, 0))]) (fun i => V.length - i) 0 ⟨rfl, rfl, rfl, trivial⟩ (Nat.zero_le _) (fun w' hw' => hw') fun i hi => ?_
  by_cases hi2 : i < V.length
  · have hSi := hl i hi2
    refine goA ?_
    refine l_opg rfl (o_pure rfl (by kernel_rfl) rfl (fun w1 hw1 => rhas_calls b c V pm C S hS i hi2 hn w1 (hV.keep hw1) (hC.keep hw1))) fun _ => ?_
    rw [hSi]
    refine goA ?_
    exact x_round (i + 1) ⟨rfl, rfl, rfl, trivial⟩ hi2 (fun w' hw' => hw') (by omega)
  · obtain rfl : i = V.length := by omega
    refine goA ?_
    refine l_op rfl (o_storea (cs' := #[.slice (some ⟨b, 0, none⟩) V.length c, .map (some pm)]) rfl rfl rfl rfl rfl rfl) fun _ => ?_
    refine goA ?_
    exact x_pu2 rfl ⟨_, rfl, loada_run rfl (.head _)⟩ rfl rfl
theorem ralloc_some (b c : Nat) (V : List Bys) (pm : Nat) (C : PR) (S : Nat → Bool) (hS : viewF V C 0 = bmB V.length S) (a : Nat) (ha : a < V.length) (hSa : S a = false) (hl : ∀ j, j < a → S j = true) (hn : V.length ≤ 1000) (w : World) (hV : Rd w (some ⟨b, 0, none⟩) (strsV V)) (hC : Here (mC pm C) w) :
    Ct Tryz.prog 35 #[wV b c V pm] w none' (fun pm' : Nat => .tuple #[wV b c V pm', .int .i64 (a : Int)]) (fun _ => True) (fun pm' => [mC pm' (withF V.length (withF V.length C 0 (bmB V.length (upd S a true))) a zeroB)]) := by
  refine ct_of [_] Tryz.func35 rfl rfl ?_
  simp only [argSlots]
  refine goA ?_
  refine l_boxa rfl rfl fun b1 hb1 => ?_
  refine goA ?_
  refine l_alloca rfl rfl fun b2 hb2 => ?_
  refine goA ?_
  refine t_for (α := Nat) (fun i => [(1, .pointer (some ⟨b1, 0, none⟩)), (2, .pointer (some ⟨b2, 0, none⟩)), (4, .int .i64 i)]) (fun i => i ≤ a)
    (fun _ => [pt b2 (.cells #[.slice none 0 0, .map none] 39 (0, 0)), pt b1 (.cells #[.slice (some ⟨b, 0, none⟩) V.length c, .map (some pm)] 39 (0, 0))]) (fun i => a - i) 0 ⟨rfl, rfl, rfl, trivial⟩ (Nat.zero_le _) (fun w' hw' => hw') fun i hi => ?_
  have hi3 : i < V.length := by omega
  by_cases hi2 : i < a
  · have hSi := hl i hi2
    refine goA ?_
    refine l_opg rfl (o_pure rfl (by kernel_rfl) rfl (fun w1 hw1 => rhas_calls b c V pm C S hS i hi3 hn w1 (hV.keep hw1) (hC.keep hw1))) fun _ => ?_
    rw [hSi]
    refine goA ?_
    exact x_round (i + 1) ⟨rfl, rfl, rfl, trivial⟩ hi2 (fun w' hw' => hw') (by omega)
  · obtain rfl : i = a := by omega
    refine goA ?_
    refine l_opg rfl (o_pure rfl (by kernel_rfl) rfl (fun w1 hw1 => rhas_calls b c V pm C S hS i hi3 hn w1 (hV.keep hw1) (hC.keep hw1))) fun _ => ?_
    rw [hSa]
    refine goA ?_
    refine l_ctg rfl rfl (by kernel_rfl) rfl (fun w1 hw1 => set_calls b c V pm C S hS i hi3 hn w1 (hV.keep hw1) (hC.keep hw1)) fun x hx => ?_
    rw [show (!S i) = true by rw [hSa]; rfl]
    simp only [List.cons_append, List.nil_append]
    generalize withF V.length C 0 (bmB V.length (upd S i true)) = C1
    refine goA ?_
    refine l_opg rfl (o_pure rfl (by kernel_rfl) rfl (fun w1 hw1 => rzero_calls w1)) fun _ => ?_
    refine goA ?_
    refine l_ctg rfl rfl (by kernel_rfl) rfl (fun w1 hw1 => with_calls b c V x C1 i (by omega) zeroB hn w1 (Here.of (hw1.item (mC x C1) (.head _)) (mapN_stable _ _ _ _))) fun x hx => ?_
    simp only [List.cons_append, List.nil_append]
    refine goA ?_
    refine l_op rfl (ho_perm (bring2 _ _ _ _) (o_storea (cs' := #[.slice (some ⟨b, 0, none⟩) V.length c, .map (some x)]) rfl rfl rfl rfl rfl rfl)) fun _ => ?_
    refine goA ?_
    exact x_ct2 x rfl ⟨_, rfl, loada_run rfl (.head _)⟩ rfl rfl trivial (.cons _ (.cons_cons _ (List.nil_sublist _))) (by intro it hm; rcases hm with _ | ⟨_, hm⟩; exact mapN_stable _ _ _ _; cases hm)
def ovK (V : List Bys) (C : PR) (k : Nat) : List Bys := (List.range V.length).map fun i => if i < k then viewF V C i else V.getD i []
theorem ovK_len (V : List Bys) (C : PR) (k : Nat) : (ovK V C k).length = V.length := by simp [ovK]
theorem ovK_zero (V : List Bys) (C : PR) : ovK V C 0 = V := by
  apply List.ext_getElem?
  intro i
  unfold ovK
  rw [List.getElem?_map]
  by_cases h : i < V.length
  · rw [List.getElem?_range h, List.getElem?_eq_getElem h]
    show some (if i < 0 then _ else V.getD i []) = _
    rw [if_neg (Nat.not_lt_zero _), List.getD_eq_getElem?_getD, List.getElem?_eq_getElem h]; rfl
  · rw [List.getElem?_eq_none (by simpa using Nat.not_lt.1 h), List.getElem?_eq_none (by omega)]; rfl
theorem ovK_all (V : List Bys) (C : PR) : ovK V C V.length = overV V C := by
  unfold ovK overV
  refine List.map_congr_left fun i hi => ?_
  rw [if_pos (List.mem_range.1 hi)]; rfl
theorem ovK_up (V : List Bys) (C : PR) {k : Nat} (h : k < V.length) : (ovK V C k).set k (viewF V C k) = ovK V C (k + 1) := by
  apply List.ext_getElem?
  intro i
  rw [List.getElem?_set]
  by_cases hi : i < V.length
  · by_cases hki : k = i
    · subst hki
      rw [if_pos rfl, if_pos (by rw [ovK_len]; exact h)]
      unfold ovK
      rw [List.getElem?_map, List.getElem?_range h]
      show _ = some (if k < k + 1 then _ else _)
      rw [if_pos (Nat.lt_succ_self _)]
    · rw [if_neg hki]
      unfold ovK
      rw [List.getElem?_map, List.getElem?_map, List.getElem?_range hi]
      show some (if i < k then _ else _) = some (if i < k + 1 then _ else _)
      by_cases h1 : i < k
      · rw [if_pos h1, if_pos (by omega)]
      · rw [if_neg h1, if_neg (by omega)]
  · rw [if_neg (by omega), List.getElem?_eq_none (by rw [ovK_len]; omega), List.getElem?_eq_none (by rw [ovK_len]; omega)]
theorem ovK_same (V : List Bys) (C : PR) {k : Nat} (h : C.lookup k = none) : ovK V C (k + 1) = ovK V C k := by
  unfold ovK
  refine List.map_congr_left fun i _ => ?_
  by_cases h1 : i < k
  · rw [if_pos h1, if_pos (by omega)]
  · rw [if_neg h1]
    by_cases h2 : i = k
    · subst h2
      rw [if_pos (Nat.lt_succ_self _)]
      unfold viewF
      rw [h]; rfl
    · rw [if_neg (by omega)]
theorem strsV_len (V : List Bys) : (strsV V).length = V.length := List.length_map _
theorem strsV_set (V : List Bys) (i : Nat) (s : Bys) : (strsV V).set i (strV s) = strsV (V.set i s) := by
  unfold strsV
  rw [List.map_set]; rfl
theorem strsV_one (V : List Bys) : oneAll (strsV V) = true := oneAll_iff.2 fun v hv => by
  obtain ⟨s, -, rfl⟩ := List.mem_map.1 hv
  rfl
theorem rcommit_calls (b c : Nat) (V : List Bys) (pm : Nat) (C : PR) (h0 : 0 < V.length) (hn : V.length ≤ 1000) (w : World) (hV : Rd w (some ⟨b, 0, none⟩) (strsV V)) (hC : Here (mC pm C) w) :
    Ct Tryz.prog 30 #[wV b c V pm] w none' (fun y : Nat × Nat × Nat => wV y.1 y.2.1 V y.2.2) (fun _ => True) (fun y => [rsI y.1 (overV V C), mC y.2.2 []]) := by
  refine ct_of [_] Tryz.func30 rfl rfl ?_
  simp only [argSlots]
  refine goA ?_
  refine l_boxa rfl rfl fun b1 hb1 => ?_
  refine goA ?_
  refine l_alloca rfl rfl fun b2 hb2 => ?_
  refine goA ?_
  refine l_imp (fun w' hw' => hp_ownN 9 1 hw') ?_
  refine l_op rfl (o_append (o := none) (n := 0) (xs := []) (news := strsV V) rfl rfl rfl rfl rfl rfl (by rw [strsV_len]; exact (Nat.mul_one _).symm) (strsV_one V) (by omega) (fun w' hw' j v hj => by
    rcases hV.keep hw' with h | ⟨b', off, he, h⟩
    · rw [h] at hj; cases hj
    · cases he
      rw [add_at]
      exact h j v hj)) fun o' => ?_
  rw [Nat.zero_add, List.nil_append]
  refine goA ?_
  refine t_own h0 fun bl cl cur ho hcl hcs hcu => ?_
  subst ho
  have hcur : cur = (strsV (ovK V C 0) ++ cur.toList.drop V.length).toArray := by
    rw [ovK_zero, ← hcu, Nat.mul_one, List.take_append_drop]
  generalize cur.toList.drop V.length = T at hcur
  rw [hcur]
  simp only [slV]
  refine t_for (α := Nat) (fun i => [(1, .pointer (some ⟨b1, 0, none⟩)), (2, .pointer (some ⟨b2, 0, none⟩)), (3, .slice (some ⟨bl, 0, none⟩) V.length cl), (4, .int .i64 i)]) (fun i => i ≤ V.length)
    (fun i => [pt bl (.cells (strsV (ovK V C i) ++ T).toArray 9 (0, 0)), pt b2 (.cells #[.slice none 0 0, .map none] 39 (0, 0)), pt b1 (.cells #[.slice (some ⟨b, 0, none⟩) V.length c, .map (some pm)] 39 (0, 0))]) (fun i => V.length - i) 0 ⟨rfl, rfl, rfl, rfl, trivial⟩ (Nat.zero_le _) (fun w' hw' => hw') fun i hi => ?_
  by_cases hi2 : i < V.length
  · refine goA ?_
    refine l_w rfl (v_lookP (q := .i64) (h := i) (A := toG strV C) rfl rfl rfl rfl rfl (okI (by omega)) (fun w' hw' => (hC.keep hw').1)) ?_
    rw [toG_lookup]
    cases hb : C.lookup i with
    | some s =>
      have hup := ovK_up V C hi2
      rw [show viewF V C i = s by unfold viewF; rw [hb]; rfl] at hup
      simp only [Option.map_some, Option.getD_some, Option.isSome_some]
      refine goA ?_
      refine l_op rfl (o_store1 rfl rfl rfl rfl rfl rfl (show 0 + i < (strsV (ovK V C i) ++ T).toArray.size from by rw [List.size_toArray, List.length_append, strsV_len, ovK_len]; omega)) fun _ => ?_
      rw [Nat.zero_add, List.setIfInBounds_toArray, List.set_append_left _ _ (by rw [strsV_len, ovK_len]; exact hi2), strsV_set, hup]
      refine goA ?_
      exact x_round (i + 1) ⟨rfl, rfl, rfl, rfl, trivial⟩ hi2 (fun w' hw' => hw') (by omega)
    | none =>
      simp only [Option.map_none, Option.getD_none, Option.isSome_none]
      rw [← ovK_same V C hb]
      refine goA ?_
      exact x_round (i + 1) ⟨rfl, rfl, rfl, rfl, trivial⟩ hi2 (fun w' hw' => hw') (by omega)
  · obtain rfl : i = V.length := by omega
    rw [ovK_all]
    refine goA ?_
    refine l_op rfl (o_makemapN (q := .i64) rfl) fun ⟨mb, hmb⟩ => ?_
    refine goA ?_
    refine l_op rfl (ho_perm (bring2 _ _ _ _) (o_storea (cs' := #[.slice (some ⟨bl, 0, none⟩) V.length cl, .map (some mb)]) rfl rfl rfl rfl rfl rfl)) fun _ => ?_
    refine goA ?_
    refine x_imp (m' := [rsI bl (overV V C), mC mb [], pt b2 (.cells #[.slice (some ⟨bl, 0, none⟩) V.length cl, .map (some mb)] 39 (0, 0))]) (fun w' hw' => rs_of (hw'.pick [2, 1, 0] rfl rfl)) ?_
    exact x_ct (bl, cl, mb) rfl ⟨_, rfl, loada_run rfl (.tail _ (.tail _ (.head _)))⟩ rfl trivial (.cons_cons _ (.cons_cons _ (List.nil_sublist _))) (by intro it hm; rcases hm with _ | ⟨_, _ | ⟨_, hm⟩⟩; exact rsI_stable _ _; exact mapN_stable _ _ _ _; cases hm)
theorem one_zero (n : Nat) (h : 0 < n) : Value.string (⟨#[1]⟩ ++ (⟨zeroB.toArray⟩ : ByteArray).extract 1 (⟨zeroB.toArray⟩ : ByteArray).size) = strV (bm0 n) := by
  rw [bm0_is n h]
  refine congrArg Value.string (ba_ext ?_)
  rw [ByteArray.data_append, Array.toList_append, drop_extract]
  show [1] ++ zeroB.drop 1 = 1 :: List.replicate 511 0
  unfold zeroB
  rw [List.drop_replicate]
  rfl
theorem zero_sz : (⟨zeroB.toArray⟩ : ByteArray).size = 512 := by show zeroB.toArray.size = 512; rw [List.size_toArray, zeroB, List.length_replicate]
theorem rnew_calls (n : Nat) (h0 : 0 < n) (hn : n ≤ 1000) (w : World) :
    Ct Tryz.prog 33 #[.int .i64 (n : Int)] w none' (fun y : Nat × Nat × Nat => wV y.1 y.2.1 (V0 n) y.2.2) (fun _ => True) (fun y => [rsI y.1 (V0 n), mC y.2.2 []]) := by
  refine ct_of [_] Tryz.func33 rfl rfl ?_
  have hrz := rzero_calls
  have hone := one_zero n h0
  have hz1 : (@OfNat.ofNat Nat 1 _) ≤ (⟨zeroB.toArray⟩ : ByteArray).size := by rw [zero_sz]; exact Nat.le_of_ble_eq_true rfl
  have hz2 : (⟨#[1]⟩ : ByteArray).size + ((⟨zeroB.toArray⟩ : ByteArray).extract 1 (⟨zeroB.toArray⟩ : ByteArray).size).size < 9223372036854775808 := by
    rw [ByteArray.size_extract, zero_sz]; show 1 + (min 512 512 - 1) < _; omega
  have hVn := V0_len n
  have hV0 : (strsV (List.replicate n zeroB)).set 0 (strV (bm0 n)) = strsV (V0 n) := by
    rw [strsV_set]
    congr 1
    apply List.ext_getElem?
    intro j
    rw [List.getElem?_set]
    by_cases hj : j < n
    · rw [V0_at hj, List.getElem?_replicate, if_pos hj]
      by_cases hj0 : 0 = j
      · subst hj0
        rw [if_pos rfl, if_pos (by rw [List.length_replicate]; exact h0), if_pos rfl]
      · rw [if_neg hj0, if_neg (fun h => hj0 h.symm)]
    · rw [if_neg (by omega), List.getElem?_eq_none (by rw [List.length_replicate]; omega), List.getElem?_eq_none (by omega)]
  generalize bm0 n = t at hV0 hone
  generalize V0 n = V at hV0 hVn ⊢
  generalize zeroB = z at hrz hone hz1 hz2 hV0
  simp only [argSlots]
  refine goA ?_
  refine l_alloca rfl rfl fun b2 hb2 => ?_
  refine goA ?_
  refine l_op rfl (o_makemapN (q := .i64) rfl) fun ⟨mb, hmb⟩ => ?_
  refine goA ?_
  refine l_alloca rfl rfl fun b3 hb3 => ?_
  refine goA ?_
  refine l_op rfl (o_storea (cs' := #[.slice none 0 0, .map (some mb)]) rfl rfl rfl rfl rfl rfl) fun _ => ?_
  refine goA ?_
  refine t_ownN 9 1 ?_
  refine t_for (α := Nat × Option (Nat × Nat)) (fun y => [(0, .int .i64 (n : Int)), (2, .pointer (some ⟨b2, 0, none⟩)), (3, .pointer (some ⟨b3, 0, none⟩)), (4, .int .i64 y.1)]) (fun y => y.1 ≤ n)
    (fun y => [own 9 1 y.2 y.1 (strsV (List.replicate y.1 z)), pt b3 (.cells #[slV y.2 y.1, .map (some mb)] 39 (0, 0)), mC mb [], pt b2 (.cells #[.slice none 0 0, .map none] 39 (0, 0))]) (fun y => n - y.1) (0, none) ⟨rfl, rfl, rfl, rfl, trivial⟩ (Nat.zero_le _) (fun w' hw' => hw') fun ⟨i, o⟩ hi => ?_
  simp only at hi ⊢
  by_cases hi2 : i < n
  · have hup : strsV (List.replicate (i + 1) z) = strsV (List.replicate i z) ++ [strV z] := by rw [List.replicate_succ', strsV, List.map_append]; rfl
    refine goA ?_
    refine t_drawm [1, 2, 3] 6 rfl rfl (by kernel_rfl) ?_
    (repeat first | (apply d_w [2] rfl rfl rfl (by kernel_rfl) (fun _ h => by first | exact h | exact Hp.sub h (.cons _ (.refl _)) | exact Hp.sub h (.cons _ (.cons _ (.refl _))) | exact Hp.sub h (.cons _ (.cons _ (.cons _ (.refl _)))) | exact Hp.sub h (.cons _ (.cons _ (.cons _ (.cons _ (.refl _))))) | exact Hp.sub h (.cons _ (.cons _ (.cons _ (.cons _ (.cons _ (.refl _)))))) | exact Hp.sub h (.cons _ (.cons _ (.cons _ (.cons _ (.cons _ (.cons _ (.refl _))))))) | exact Hp.sub h (.cons_cons _ (.cons_cons _ (List.nil_sublist _))) | exact Hp.sub h (.cons _ (.cons_cons _ (.cons_cons _ (List.nil_sublist _))))); focus (first | exact v_move rfl | exact v_assign rfl | exact v_bt rfl rfl | exact v_extract rfl rfl | exact v_field0 rfl rfl | exact v_field rfl rfl | exact v_lens rfl rfl | exact v_lenstr rfl rfl | exact v_nt rfl | exact v_load1p rfl rfl (by repeat first | exact .head _ | apply List.Mem.tail) | exact v_loadn rfl rfl (by repeat first | exact .head _ | apply List.Mem.tail) rfl | exact v_loadp rfl rfl (by repeat first | exact .head _ | apply List.Mem.tail) rfl | exact v_loada rfl rfl (by repeat first | exact .head _ | apply List.Mem.tail) | exact v_eqb rfl rfl rfl | exact v_slA rfl rfl rfl | exact v_builds rfl rfl rfl rfl rfl | exact v_eqs rfl rfl | exact v_nc rfl | exact v_caps rfl rfl | exact v_eqpn rfl rfl rfl | exact v_nepn rfl rfl rfl | exact v_neps rfl rfl rfl rfl | ((first | refine v_bn rfl rfl ?_ | refine v_is1 rfl rfl rfl ?_ | refine v_ia1 rfl rfl rfl ?_ | refine v_sa rfl rfl rfl ?_ | refine v_sF rfl rfl rfl ?_ | refine v_sT rfl rfl rfl ?_ | refine v_sFT rfl rfl rfl rfl ?_ | refine v_lF rfl rfl rfl rfl ?_ | refine v_is rfl rfl rfl ?_ | refine v_ia rfl rfl rfl ?_ | refine v_lT rfl rfl rfl rfl ?_ | refine v_cv rfl rfl rfl ?_ | refine v_slLH rfl rfl rfl rfl rfl ?_ | refine v_sl3 rfl rfl rfl rfl rfl ?_); first | omega | assumption) | exact v_pT rfl rfl (by first | omega | assumption | (simp; done) | exact fun h => h (by assumption) | fail) | exact v_pF rfl rfl (by first | omega | assumption | (simp; done) | exact fun h => h (by assumption) | fail) | exact v_pickB rfl rfl rfl)) | refine d_no [2] rfl rfl rfl (by kernel_rfl) (fun _ h => by first | exact h | exact Hp.sub h (.cons _ (.refl _)) | exact Hp.sub h (.cons _ (.cons _ (.refl _))) | exact Hp.sub h (.cons _ (.cons _ (.cons _ (.refl _)))) | exact Hp.sub h (.cons _ (.cons _ (.cons _ (.cons _ (.refl _))))) | exact Hp.sub h (.cons _ (.cons _ (.cons _ (.cons _ (.cons _ (.refl _)))))) | exact Hp.sub h (.cons _ (.cons _ (.cons _ (.cons _ (.cons _ (.cons _ (.refl _))))))) | exact Hp.sub h (.cons_cons _ (.cons_cons _ (List.nil_sublist _))) | exact Hp.sub h (.cons _ (.cons_cons _ (.cons_cons _ (List.nil_sublist _))))) ?_ | refine d_T [2] rfl rfl rfl rfl (by first | omega | assumption | (simp; done) | exact fun h => h (by assumption) | fail) ?_ | refine d_F [2] rfl rfl rfl rfl (by first | omega | assumption | (simp; done) | exact fun h => h (by assumption) | fail) ?_)
    refine d_opg 2 ⟨by kernel_rfl, by decide⟩ rfl rfl (o_pure rfl (by kernel_rfl) rfl (fun w1 hw1 => hrz w1)) (fun _ _ h => goH h) fun _ => ?_
    refine goE ?_
    refine d_opg 3 ⟨by kernel_rfl, by decide⟩ rfl rfl (o_buildslice (L := [(0, 1, strV z)]) rfl rfl rfl rfl rfl rfl) (fun _ _ h => goH h) fun ⟨bq, hbq⟩ => ?_
    refine goE ?_
    refine d_opg 4 ⟨by kernel_rfl, by decide⟩ rfl rfl (ho_perm (bring1 _ _ _) (o_append (news := [strV z]) rfl rfl rfl rfl rfl rfl rfl rfl (by omega) (fun w' hw' j v hj => by rw [add_at, Nat.zero_add]; exact own_rd (hw'.item _ (.tail _ (.head _))).1 j v hj))) (fun _ _ h => goH h) fun o' => ?_
    refine goE ?_
    refine d_tail ⟨by kernel_rfl, by kernel_rfl⟩ rfl rfl (ho_perm (bring2 _ _ _ _) (o_store1 rfl rfl rfl rfl (slV_cells1 _ _) (slV_one1 _ _) (show (0 : Nat) < 2 from by decide))) fun _ => ?_
    rw [← hup]
    refine goA ?_
    exact x_round (i + 1, o') ⟨rfl, rfl, rfl, rfl, trivial⟩ hi2 (fun w' hw' => hw'.pick [1, 0, 3, 4] rfl rfl) (by simp only; omega)
  · obtain rfl : i = n := by omega
    refine goA ?_
    refine t_own h0 fun bl cl cur ho hcl hcs hcu => ?_
    subst ho
    have hcur : cur = (strsV (List.replicate i z) ++ cur.toList.drop i).toArray := by
      rw [← hcu, Nat.mul_one, List.take_append_drop]
    generalize cur.toList.drop i = T at hcur
    rw [hcur]
    simp only [slV]
    refine t_drawm [0, 1, 2, 3] 6 rfl rfl (by kernel_rfl) ?_
    (repeat first | (apply d_w [2] rfl rfl rfl (by kernel_rfl) (fun _ h => by first | exact h | exact Hp.sub h (.cons _ (.refl _)) | exact Hp.sub h (.cons _ (.cons _ (.refl _))) | exact Hp.sub h (.cons _ (.cons _ (.cons _ (.refl _)))) | exact Hp.sub h (.cons _ (.cons _ (.cons _ (.cons _ (.refl _))))) | exact Hp.sub h (.cons _ (.cons _ (.cons _ (.cons _ (.cons _ (.refl _)))))) | exact Hp.sub h (.cons _ (.cons _ (.cons _ (.cons _ (.cons _ (.cons _ (.refl _))))))) | exact Hp.sub h (.cons_cons _ (.cons_cons _ (List.nil_sublist _))) | exact Hp.sub h (.cons _ (.cons_cons _ (.cons_cons _ (List.nil_sublist _))))); focus (first | exact v_move rfl | exact v_assign rfl | exact v_bt rfl rfl | exact v_extract rfl rfl | exact v_field0 rfl rfl | exact v_field rfl rfl | exact v_lens rfl rfl | exact v_lenstr rfl rfl | exact v_nt rfl | exact v_load1p rfl rfl (by repeat first | exact .head _ | apply List.Mem.tail) | exact v_loadn rfl rfl (by repeat first | exact .head _ | apply List.Mem.tail) rfl | exact v_loadp rfl rfl (by repeat first | exact .head _ | apply List.Mem.tail) rfl | exact v_loada rfl rfl (by repeat first | exact .head _ | apply List.Mem.tail) | exact v_eqb rfl rfl rfl | exact v_slA rfl rfl rfl | exact v_builds rfl rfl rfl rfl rfl | exact v_eqs rfl rfl | exact v_nc rfl | exact v_caps rfl rfl | exact v_eqpn rfl rfl rfl | exact v_nepn rfl rfl rfl | exact v_neps rfl rfl rfl rfl | ((first | refine v_bn rfl rfl ?_ | refine v_is1 rfl rfl rfl ?_ | refine v_ia1 rfl rfl rfl ?_ | refine v_sa rfl rfl rfl ?_ | refine v_sF rfl rfl rfl ?_ | refine v_sT rfl rfl rfl ?_ | refine v_sFT rfl rfl rfl rfl ?_ | refine v_lF rfl rfl rfl rfl ?_ | refine v_is rfl rfl rfl ?_ | refine v_ia rfl rfl rfl ?_ | refine v_lT rfl rfl rfl rfl ?_ | refine v_cv rfl rfl rfl ?_ | refine v_slLH rfl rfl rfl rfl rfl ?_ | refine v_sl3 rfl rfl rfl rfl rfl ?_); first | omega | assumption) | exact v_pT rfl rfl (by first | omega | assumption | (simp; done) | exact fun h => h (by assumption) | fail) | exact v_pF rfl rfl (by first | omega | assumption | (simp; done) | exact fun h => h (by assumption) | fail) | exact v_pickB rfl rfl rfl)) | refine d_no [2] rfl rfl rfl (by kernel_rfl) (fun _ h => by first | exact h | exact Hp.sub h (.cons _ (.refl _)) | exact Hp.sub h (.cons _ (.cons _ (.refl _))) | exact Hp.sub h (.cons _ (.cons _ (.cons _ (.refl _)))) | exact Hp.sub h (.cons _ (.cons _ (.cons _ (.cons _ (.refl _))))) | exact Hp.sub h (.cons _ (.cons _ (.cons _ (.cons _ (.cons _ (.refl _)))))) | exact Hp.sub h (.cons _ (.cons _ (.cons _ (.cons _ (.cons _ (.cons _ (.refl _))))))) | exact Hp.sub h (.cons_cons _ (.cons_cons _ (List.nil_sublist _))) | exact Hp.sub h (.cons _ (.cons_cons _ (.cons_cons _ (List.nil_sublist _))))) ?_ | refine d_T [2] rfl rfl rfl rfl (by first | omega | assumption | (simp; done) | exact fun h => h (by assumption) | fail) ?_ | refine d_F [2] rfl rfl rfl rfl (by first | omega | assumption | (simp; done) | exact fun h => h (by assumption) | fail) ?_)
    refine d_opg 2 ⟨by kernel_rfl, by decide⟩ rfl rfl (o_pure rfl (by kernel_rfl) rfl (fun w1 hw1 => hrz w1)) (fun _ _ h => goH h) fun _ => ?_
    refine goE ?_
    rw [hone]
    refine goE ?_
    refine d_tail ⟨by kernel_rfl, by kernel_rfl⟩ rfl rfl (o_store1 rfl rfl rfl rfl rfl rfl (show 0 + 0 < (strsV (List.replicate i z) ++ T).toArray.size from by rw [List.size_toArray, List.length_append, strsV_len, List.length_replicate]; omega)) fun _ => ?_
    rw [Nat.zero_add, List.setIfInBounds_toArray, List.set_append_left _ _ (by rw [strsV_len, List.length_replicate]; exact h0), hV0]
    refine goA ?_
    refine l_op rfl (ho_perm (bring3 _ _ _ _ _) (o_storea (cs' := #[.slice (some ⟨bl, 0, none⟩) i cl, .map (some mb)]) rfl rfl rfl rfl rfl rfl)) fun _ => ?_
    refine goA ?_
    refine x_imp (m' := [rsI bl V, mC mb [], pt b2 (.cells #[.slice (some ⟨bl, 0, none⟩) i cl, .map (some mb)] 39 (0, 0))]) (fun w' hw' => rs_of (hw'.pick [1, 3, 0] rfl rfl)) ?_
    rw [show (Value.slice (some ⟨bl, 0, none⟩) i cl) = .slice (some ⟨bl, 0, none⟩) V.length cl by rw [hVn]]
    exact x_ct (bl, cl, mb) rfl ⟨_, rfl, loada_run rfl (.tail _ (.tail _ (.head _)))⟩ rfl trivial (.cons_cons _ (.cons_cons _ (List.nil_sublist _))) (by intro it hm; rcases hm with _ | ⟨_, _ | ⟨_, hm⟩⟩; exact rsI_stable _ _; exact mapN_stable _ _ _ _; cases hm)
end Go.Proofs.YtplhamichcnmmaaGreatDoor
