/- package sheet: Cut, the pieces of a text. -/
import Derived.Test.YtplhamichcnmmaaGreatDoorHc20
import Derived.Test.YtplhamichcnmmaaGreatDoorHc19
namespace Go.Eng
open Go.RowKit
theorem hp_ownN {w0 w : World} {F : Nat → Prop} {m : List Item} (e : TypeId) (sz : Nat) (h : Hp w0 F m w) : Hp w0 F (own e sz none 0 [] :: m) w := Hp.call0 (L := [own e sz none 0 []]) h ⟨.refl _ _, fun it hm => by
      obtain rfl : it = own e sz none 0 [] := by simpa using hm
      exact ⟨⟨(Nat.zero_mul sz).symm, rfl⟩, own_stable _ _ _ _ _ _, fun k ⟨c, h⟩ => by cases h⟩, .cons (fun _ h => by cases h) .nil⟩
theorem t_ownN {P : Program} {c : Code} {Q : Exit → Act → World → Prop} {N : Fm} {l : Slots} {w0 : World} {F : Nat → Prop} {m : List Item} (e : TypeId) (sz : Nat) (h : HT P c Q N l (Hp w0 F (own e sz none 0 [] :: m))) : HT P c Q N l (Hp w0 F m) := by
  unfold HT at *
  exact fun a w s hw => h a w s (hp_ownN e sz hw)
theorem slV_cells1 (o : Option (Nat × Nat)) (n : Nat) : (slV o n).cells = #[slV o n] := by cases o <;> rfl
theorem slV_one1 (o : Option (Nat × Nat)) (n : Nat) : (slV o n).oneCell' = true := by cases o <;> rfl
end Go.Eng
namespace Go.Proofs.YtplhamichcnmmaaGreatDoor
open Go.RowKit Go.Eng
set_option maxRecDepth 100000
set_option maxHeartbeats 40000000
theorem ext_take (s : Bys) (n : Nat) : (⟨s.toArray⟩ : ByteArray).extract 0 n = ⟨(s.take n).toArray⟩ := ba_ext (by simp [ByteArray.data_extract, List.extract_eq_take_drop])
theorem ext_drop (s : Bys) (n m : Nat) (h : s.length ≤ m) : (⟨s.toArray⟩ : ByteArray).extract n m = ⟨(s.drop n).toArray⟩ := ba_ext (by simp [ByteArray.data_extract, List.extract_eq_take_drop]; rw [List.take_of_length_le]; rw [List.length_drop]; omega)
def cutI (x : Nat × Nat) (q : Nat) (t : Bys) : List Eng.Item := [pt x.1 (.cells #[.string ⟨t.toArray⟩] 9 (0, 0)), pt x.2 (.cells #[.int .u64 (q : Int)] 83 (0, 0))]
theorem cutI_stable (x : Nat × Nat) (q : Nat) (t : Bys) : ∀ it ∈ cutI x q t, it.Stable none' := by simp [cutI, pt_stable]
def cutV (x : Nat × Nat) : Value := .func (.func 143) #[] #[.pointer (some ⟨x.1, 0, none⟩), .pointer (some ⟨x.2, 0, none⟩)]
def pcsL (q : Nat) (t : Bys) : List Sht := (List.range (needF t.length)).map (pcS q t)
theorem pcsL_at {q : Nat} {t : Bys} {j : Nat} (h : j < needF t.length) : (pcsL q t)[j]? = some (pcS q t j) := by
  unfold pcsL
  rw [List.getElem?_map, List.getElem?_range h]
  rfl
theorem pcsL_len (q : Nat) (t : Bys) : (pcsL q t).length = needF t.length := by simp [pcsL]
theorem pcsL_take {q : Nat} {t : Bys} {j : Nat} (h : j < needF t.length) : (pcsL q t).take j ++ [pcS q t j] = (pcsL q t).take (j + 1) := by
  rw [List.take_add_one, pcsL_at h]
  rfl
theorem cut_iter (q : Nat) (t : Bys) (ht : t.length ≤ 1000000000) (hq : q + needF t.length < 18446744073709551616) (x : Nat × Nat) :
    IterS Tryz.prog 143 [.pointer (some ⟨x.1, 0, none⟩), .pointer (some ⟨x.2, 0, none⟩)] (cutI x q t) [] (fun k s => k.length < needF t.length ∧ s = pcS q t k.length ∧ k = (pcsL q t).take k.length) (fun k => k = pcsL q t) (fun s => [.agg (shtA s)]) := by
  obtain ⟨b1, b2⟩ := x
  simp only [cutI]
  refine iterS_of [_, _] _ _ _ _ _ Tryz.func143 rfl rfl ?_
  intro σ ly Y I J s0 w hst h0 hy
  have hn0 := needF_pos t.length
  simp only [argSlots]
  refine goA ?_
  refine t_for (α := Nat × σ) (fun _ => [(0, .func (.yield ly) #[] #[]), (1, .pointer (some ⟨b1, 0, none⟩)), (2, .pointer (some ⟨b2, 0, none⟩))]) (fun y => y.1 < needF t.length ∧ I ((pcsL q t).take y.1) y.2) (fun y => [Y y.2, pt b1 (.cells #[.string ⟨(t.drop (497 * y.1)).toArray⟩] 9 (0, 0)), pt b2 (.cells #[.int .u64 ((q + y.1 : Nat) : Int)] 83 (0, 0))]) (fun y => needF t.length - y.1) (0, s0) ⟨rfl, rfl, rfl, trivial⟩ ⟨hn0, h0⟩ (fun w h => h) fun ⟨i, st⟩ ⟨hi, hI⟩ => ?_
  simp only at hi hI ⊢
  have hsz : (⟨(t.drop (497 * i)).toArray⟩ : ByteArray).size = t.length - 497 * i := by rw [bal, List.length_drop]
  have hxi : (pcS q t i).text = (t.drop (497 * i)).take 497 := rfl
  by_cases hl : i + 1 < needF t.length
  · have hlt := needF_lt hl
    refine goA ?_
    refine t_drawY [1, 2] rfl rfl (by kernel_rfl) ?_
    refine y_val (i := 0) rfl (by kernel_rfl) (fun w hw => hw.pick [1, 2] rfl rfl) rfl (v_move rfl) ?_
    refine y_val (i := 1) rfl (by kernel_rfl) (fun w hw => hw.pick [1, 2] rfl rfl) rfl (v_loadp rfl rfl (.tail _ (.head _)) rfl) ?_
    refine y_val (i := 2) rfl (by kernel_rfl) (fun w hw => hw.pick [1, 2] rfl rfl) rfl (v_loadp rfl rfl (.head _) rfl) ?_
    refine y_val (i := 3) rfl (by kernel_rfl) (fun w hw => hw.pick [1, 2] rfl rfl) rfl (v_slstrTC rfl rfl rfl (by omega)) ?_
    refine y_val (i := 4) rfl (by kernel_rfl) (fun w hw => hw.pick [1, 2] rfl rfl) rfl (v_as (v_builds rfl rfl rfl rfl rfl) (v' := .agg (shtA (pcS q t i))) (by
      rw [ext_take]
      unfold shtA
      rw [show (pcS q t i).last = false from decide_eq_false (by omega)]
      rfl)) ?_
    refine y_yield (i := 5) (by kernel_rfl) rfl rfl rfl rfl (hst st) (hy ((pcsL q t).take i) (pcS q t i) st ⟨by rw [List.length_take, pcsL_len]; omega, by rw [List.length_take, pcsL_len, Nat.min_eq_left (by omega)], by rw [List.length_take, pcsL_len, Nat.min_eq_left (by omega)]⟩ hI) (fun s' w hw => hw.pick [1, 2] rfl rfl) fun b s' hR => ?_
    refine y_val (i := 6) rfl (by kernel_rfl) (fun w hw => hw.pick [1, 2] rfl rfl) rfl (ov fun _ _ _ _ _ => rfl) ?_
    refine y_end (by kernel_rfl) ?_
    rcases hR with ⟨rfl, h8⟩ | ⟨rfl, h8⟩
    · refine goA ?_
      refine l_op rfl (ho_perm (bring2 _ _ _ _) (o_store1 rfl rfl rfl rfl rfl rfl (by simp))) fun _ => ?_
      refine goA ?_
      refine l_say 8 _ (.string ⟨(t.drop (497 * (i + 1))).toArray⟩) rfl (by
        rw [ext_drop _ _ _ (by rw [bal]; exact Nat.le_refl _), List.drop_drop, Nat.mul_add, Nat.mul_one]) ?_
      refine l_op rfl (ho_perm (bring2 _ _ _ _) (o_store1 rfl rfl rfl rfl rfl rfl (by simp))) fun _ => ?_
      refine goA ?_
      exact x_round (i + 1, s') ⟨rfl, rfl, rfl, trivial⟩ ⟨hl, by rw [← pcsL_take hi]; exact h8⟩ (fun w hw => hw.pick [2, 0, 1] rfl rfl) (by show needF t.length - (i + 1) < needF t.length - i; omega)
    · refine goA ?_
      exact x_iterS s' rfl (.inr h8) (by simpa using hst s') (.cons_cons _ (List.nil_sublist _))
  · have hlt := needF_last (n := t.length) (j := i) (by omega)
    refine goA ?_
    refine l_say 21 _ (.agg (shtA (pcS q t i))) rfl (by
      unfold shtA
      rw [show (pcS q t i).last = true from decide_eq_true (by omega), hxi, List.take_of_length_le (by rw [List.length_drop]; omega)]
      rfl) ?_
    refine l_yield rfl rfl rfl rfl (hst st) (hy ((pcsL q t).take i) (pcS q t i) st ⟨by rw [List.length_take, pcsL_len]; omega, by rw [List.length_take, pcsL_len, Nat.min_eq_left (by omega)], by rw [List.length_take, pcsL_len, Nat.min_eq_left (by omega)]⟩ hI) fun b s' hR => ?_
    refine goA ?_
    refine x_iterSN s' rfl ?_ (by simpa using hst s') (.cons_cons _ (List.nil_sublist _))
    rcases hR with ⟨-, h8⟩ | ⟨-, h8⟩
    · refine .inl ⟨_, ?_, h8⟩
      rw [pcsL_take hi]
      exact List.take_of_length_le (by rw [pcsL_len]; omega)
    · exact .inr h8
theorem cut_calls (q : Nat) (t : Bys) (w : World) : Ct Tryz.prog 131 #[.int .u64 q, .string ⟨t.toArray⟩] w none' cutV (fun _ => True) (fun x => cutI x q t) := by
  refine ct_of [_, _] Tryz.func131 rfl rfl ?_
  simp only [argSlots, Nat.reduceAdd]
  refine goA ?_
  refine l_box1 rfl rfl rfl fun b2 _ => ?_
  refine l_box1 rfl rfl rfl fun b1 _ => ?_
  refine goA ?_
  refine l_w rfl (v_mkf rfl) ?_
  refine goA ?_
  exact x_ct (b1, b2) rfl rfl rfl trivial (.refl _) (cutI_stable _ q t)
abbrev shtsV (L : List Sht) : List Value := rowsV (fun s => (shtA s).toList) L
def asB (b : Nat) (y : Option (Nat × Nat) × List Sht) : List Eng.Item := [own 163 3 y.1 y.2.length (shtsV y.2), pt b (.cells #[slV y.1 y.2.length] 160 (0, 0))]
theorem asB_stable (b : Nat) (y : Option (Nat × Nat) × List Sht) : ∀ it ∈ asB b y, it.Stable none' := by simp [asB, pt_stable, own_stable]
theorem shappend_calls {f : FuncId} {cs : List Value} {mi mo : List Eng.Item} {E : List Sht → Sht → Prop} {S : List Sht → Prop} (hb : hasBody Tryz.prog f = true) (hit : IterS Tryz.prog f cs mi mo E S (fun s => [.agg (shtA s)])) (hmi : ∀ it ∈ mi, it.Stable none') (hmo : ∀ it ∈ mo, it.Stable none') (hE : ∀ k x, E k x → k.length < 1000000000) (w : World) (hw : ∀ it ∈ mi, Here it w) (ha : mi.Pairwise Eng.Item.Apart) :
    Ct Tryz.prog 142 #[.slice none 0 0, .func (.func f) #[] cs.toArray] w (foots mi) (fun x : Option (Nat × Nat) × List Sht => slV x.1 x.2.length) (fun x => S x.2) (fun x => own 163 3 x.1 x.2.length (shtsV x.2) :: mo) := by
  refine cuM_of [_, _] mi Tryz.func142 rfl rfl hw ha ?_
  simp only [argSlots, Nat.reduceAdd]
  refine goA ?_
  refine l_box1 rfl rfl rfl fun b2 _ => ?_
  refine goA ?_
  refine t_ownN 163 3 ?_
  refine t_perm (m' := asB b2 (none, []) ++ (mi ++ [])) (by rw [List.append_nil]; exact .refl _) ?_
  refine t_rangeS (m2 := []) (asB b2) (fun k y => y.2 = k) (fun _ _ => False) (none, []) rfl rfl hb hit (fun _ => rfl) (by decide) (asB_stable _) hmi rfl ?_ ?_ ?_
  · rintro ly rc k x ⟨o, out⟩ W hx hk
    simp only at hk
    subst hk
    have hlen := hE _ _ hx
    simp only [asB, pslots, List.zip_cons_cons, List.zip_nil_right]
    refine goA ?_
    refine l_alloca rfl rfl fun b5 hb5 => ?_
    refine l_op rfl (o_storea (cs' := shtA x) rfl rfl rfl rfl rfl rfl) fun _ => ?_
    refine l_pick [1, 2, 3, 0] rfl rfl ?_
    refine goA ?_
    refine x_asg ?_
    refine goA ?_
    refine l_op rfl (o_buildslice (L := [(0, 3, .agg (shtA x))]) rfl rfl rfl rfl rfl (okP1 rfl (by decide))) fun ⟨bq, hbq⟩ => ?_
    refine goA ?_
    refine l_op rfl (ho_perm (bring2 _ _ _ _) (o_append (news := (shtA x).toList) rfl rfl rfl rfl rfl rfl rfl rfl (by omega) (fun w' hw' j v hj => by rw [add_at, Nat.zero_add]; exact own_rd (hw'.item _ (.tail _ (.head _))).1 j v hj))) fun o' => ?_
    refine goA ?_
    refine l_pick [3, 0, 2] rfl rfl ?_
    refine l_op rfl (o_store1 rfl rfl rfl rfl (slV_cells1 _ _) (slV_one1 _ _) (show (0 : Nat) < 1 from by decide)) fun _ => ?_
    refine l_pick [2, 1, 0] rfl rfl ?_
    refine goA ?_
    have e1 : (out ++ [x]).length = out.length + 1 := by simp
    have e2 : shtsV (out ++ [x]) = shtsV out ++ (shtA x).toList := by simp [rowsV]
    refine x_turn .normal none rfl (o', out ++ [x]) rfl ?_ (asB_stable b2 _)
    simp only [asB, e1, e2]
    exact .refl _
  · rintro D k ⟨o, out⟩ hS hk
    simp only at hk
    subst hk
    simp only [asB, List.append_nil]
    refine goA ?_
    refine x_mark1 ?_
    exact x_ct (o, out) rfl rfl rfl hS (.cons_cons _ (.cons _ (.refl _))) (by
      intro it hm
      rcases hm with _ | ⟨_, hm⟩
      · exact own_stable _ _ _ _ _ _
      · exact hmo it hm)
  · rintro D c s h
    exact h.elim
theorem shcollect_calls {f : FuncId} {cs : List Value} {mi mo : List Eng.Item} {E : List Sht → Sht → Prop} {S : List Sht → Prop} (hb : hasBody Tryz.prog f = true) (hit : IterS Tryz.prog f cs mi mo E S (fun s => [.agg (shtA s)])) (hmi : ∀ it ∈ mi, it.Stable none') (hmo : ∀ it ∈ mo, it.Stable none') (hE : ∀ k x, E k x → k.length < 1000000000) (w : World) (hw : ∀ it ∈ mi, Here it w) (ha : mi.Pairwise Eng.Item.Apart) :
    Ct Tryz.prog 130 #[.func (.func f) #[] cs.toArray] w (foots mi) (fun x : Option (Nat × Nat) × List Sht => slV x.1 x.2.length) (fun x => S x.2) (fun x => own 163 3 x.1 x.2.length (shtsV x.2) :: mo) := by
  refine cu_of [_] mi Tryz.func130 rfl rfl hw ha ?_
  simp only [argSlots]
  refine goA ?_
  refine l_perm (m' := mi ++ []) (by rw [List.append_nil]) ?_
  refine l_opg rfl (o_cu (pre := mi) (m := []) rfl (by kernel_rfl) rfl hmi (fun w1 hw1 hh1 ha1 => shappend_calls hb hit hmi hmo hE w1 hh1 ha1)) fun ⟨⟨o, out⟩, hS⟩ => ?_
  dsimp only at hS ⊢
  refine l_perm (m' := own 163 3 o out.length (shtsV out) :: mo) (by rw [List.append_nil]) ?_
  refine goA ?_
  exact x_ct (o, out) rfl rfl rfl hS (.refl _) (by
      intro it hm
      rcases hm with _ | ⟨_, hm⟩
      · exact own_stable _ _ _ _ _ _
      · exact hmo it hm)
theorem Cut_calls (q : Nat) (t : Bys) (ht : t.length ≤ 1000000000) (hq : q + needF t.length < 18446744073709551616) (w : World) :
    Ct Tryz.prog 117 #[.int .u64 q, .string ⟨t.toArray⟩] w none' (fun o : Nat × Nat => .slice (some ⟨o.1, 0, none⟩) (needF t.length) o.2) (fun _ => True) (fun o => [own 163 3 (some o) (needF t.length) (shtsV (pcsL q t))]) := by
  refine ct_of [_, _] Tryz.func117 rfl rfl ?_
  simp only [argSlots, Nat.reduceAdd]
  refine goA ?_
  refine l_ctg rfl rfl (by kernel_rfl) rfl (fun w1 hw1 => cut_calls q t w1) fun x hx => ?_
  refine goA ?_
  unfold cutV
  have hn1 : needF t.length ≤ 1000000000 := by unfold needF; omega
  refine l_perm (m' := cutI x q t ++ []) (by rw [List.append_nil]) ?_
  refine l_opg rfl (o_cu (pre := cutI x q t) (m := []) rfl (by kernel_rfl) rfl (cutI_stable x q t) (fun w1 hw1 hh1 ha1 => shcollect_calls (f := 143) (cs := [.pointer (some ⟨x.1, 0, none⟩), .pointer (some ⟨x.2, 0, none⟩)]) (by kernel_rfl) (cut_iter q t ht hq x) (cutI_stable x q t) (by simp) (fun k y h => by have := h.1; omega) w1 hh1 ha1)) fun ⟨⟨o, out⟩, hS⟩ => ?_
  dsimp only at hS ⊢
  subst hS
  rw [pcsL_len]
  have hn0 := needF_pos t.length
  rcases o with _ | o
  · refine l_fact (fun w hw => (hw.item _ (.head _)).1.2) fun h0 => ?_
    exact absurd h0 (by omega)
  refine goA ?_
  exact x_ct o rfl rfl rfl trivial (.refl _) (by simp [own_stable])
end Go.Proofs.YtplhamichcnmmaaGreatDoor
