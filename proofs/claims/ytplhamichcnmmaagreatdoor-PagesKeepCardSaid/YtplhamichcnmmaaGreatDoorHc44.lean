/- law 8: Does: Commit. -/
import Derived.Test.YtplhamichcnmmaaGreatDoorHc43
namespace Go.Proofs.YtplhamichcnmmaaGreatDoor
open Go.RowKit Go.Eng Go.Eng.Bm
set_option maxRecDepth 100000
set_option maxHeartbeats 40000000
structure DieP (x : Lw) (log B : Nat) (y : Lw) : Prop where
  xb : y.xb = x.xb
  db : y.d.b = x.d.b
  sub : ∀ it ∈ x.A, it ∈ y.A
  stable : ∀ it ∈ y.A, it.Stable none'
  off : Off y.d.D 128 log noteB x.V B ∨ Off y.d.D 128 log noteB (overV x.V x.C) B
  left : x.d.D.left ≠ none
theorem ar_both {x : Lw} (ar : Ar x) {pv cv pm : Nat} {V : List Bys} {C : PR} (xb : Nat) (s : Pg) (d : Dk) : Ar ⟨xb, s, d, pv, cv, pm, V, C, rsI pv V :: mC pm C :: x.A⟩ :=
  ⟨fun it hm => by rcases List.mem_cons.1 hm with rfl | hm; exact rsI_stable _ _; rcases List.mem_cons.1 hm with rfl | hm; exact mapN_stable _ _ _ _; exact ar.stable it hm, .head _, .tail _ (.head _)⟩
theorem does3_calls (log : Nat) (x : Lw) (B : Nat) (ok : LwOk x log B) (hB2 : B + 601 ≤ 1000000000) (N : Int) (c : UInt8) (keep : Bys) (w : World) (hw : ∀ it ∈ lwL log x, Here it w) (ha : (lwL log x).Pairwise Eng.Item.Apart) :
    Ct Tryz.prog 9 #[.pointer (some ⟨x.xb, 0, none⟩), .agg (actA 3 N c keep)] w (foots (lwL log x)) (fun y : Bool × Lw => .bool y.1) (fun y => (y.1 = true ∧ DoesP x log (B + 601) y.2) ∨ DieP x log (B + 601) y.2) (fun y => lwL log y.2) := by
  obtain ⟨hst, ar, hl1, hl2, hB⟩ := ok
  have hl := hst.len
  have hle := hst.le
  have hmany := hst.many
  obtain ⟨xb, s, d, pv, cv, pm, V, C, A⟩ := x
  dsimp only at hst hl hle hmany ⊢
  refine cu_of [_, _] _ Tryz.func9 rfl rfl hw ha ?_
  unfold lwL lwC
  dsimp only
  simp only [argSlots, Nat.reduceAdd]
  refine goA ?_
  refine l_boxa rfl rfl fun b3 hb3 => ?_
  refine goA ?_
  refine l_pick [2, 3, 4, 1, 0, 5, 6] rfl rfl ?_
  by_cases hC0 : s.C = []
  · refine l_opg rfl (o_pure rfl (by kernel_rfl) rfl (fun w1 hw1 => pgcommit_zero s d hst.dead hC0 w1 (Here.of (hw1.item (pgI s d) (by repeat first | exact .head _ | apply List.Mem.tail)) (pgI_stable s d)))) fun _ => ?_
    have hCn : C = [] := List.eq_nil_of_length_eq_zero (by rw [hmany, hC0]; rfl)
    subst hCn
    refine goA ?_
    refine t_drawp (by kernel_rfl) ?_
    (repeat first | (apply d_w [3, 4] rfl rfl rfl (by kernel_rfl) (fun _ h => by first | exact h | exact Hp.sub h (.cons _ (.refl _)) | exact Hp.sub h (.cons _ (.cons _ (.refl _))) | exact Hp.sub h (.cons _ (.cons _ (.cons _ (.refl _)))) | exact Hp.sub h (.cons _ (.cons _ (.cons _ (.cons _ (.refl _))))) | exact Hp.sub h (.cons _ (.cons _ (.cons _ (.cons _ (.cons _ (.refl _)))))) | exact Hp.sub h (.cons _ (.cons _ (.cons _ (.cons _ (.cons _ (.cons _ (.refl _))))))) | exact Hp.sub h (.cons_cons _ (.cons_cons _ (List.nil_sublist _))) | exact Hp.sub h (.cons _ (.cons_cons _ (.cons_cons _ (List.nil_sublist _))))); focus (first | exact v_move rfl | exact v_assign rfl | exact v_bt rfl rfl | exact v_extract rfl rfl | exact v_field0 rfl rfl | exact v_field rfl rfl | exact v_lens rfl rfl | exact v_lenstr rfl rfl | exact v_nt rfl | exact v_load1p rfl rfl (by repeat first | exact .head _ | apply List.Mem.tail) | exact v_loadn rfl rfl (by repeat first | exact .head _ | apply List.Mem.tail) rfl | exact v_loadp rfl rfl (by repeat first | exact .head _ | apply List.Mem.tail) rfl | exact v_loada rfl rfl (by repeat first | exact .head _ | apply List.Mem.tail) | exact v_eqb rfl rfl rfl | exact v_slA rfl rfl rfl | exact v_builds rfl rfl rfl rfl rfl | exact v_eqs rfl rfl | exact v_nc rfl | exact v_caps rfl rfl | exact v_eqpn rfl rfl rfl | exact v_nepn rfl rfl rfl | exact v_neps rfl rfl rfl rfl | ((first | refine v_bn rfl rfl ?_ | refine v_is1 rfl rfl rfl ?_ | refine v_ia1 rfl rfl rfl ?_ | refine v_sa rfl rfl rfl ?_ | refine v_sF rfl rfl rfl ?_ | refine v_sT rfl rfl rfl ?_ | refine v_sFT rfl rfl rfl rfl ?_ | refine v_lF rfl rfl rfl rfl ?_ | refine v_is rfl rfl rfl ?_ | refine v_ia rfl rfl rfl ?_ | refine v_lT rfl rfl rfl rfl ?_ | refine v_cv rfl rfl rfl ?_ | refine v_slLH rfl rfl rfl rfl rfl ?_ | refine v_sl3 rfl rfl rfl rfl rfl ?_); first | omega | assumption) | exact v_pT rfl rfl (by first | omega | assumption | (simp; done) | exact fun h => h (by assumption) | fail) | exact v_pF rfl rfl (by first | omega | assumption | (simp; done) | exact fun h => h (by assumption) | fail) | exact v_pickB rfl rfl rfl)) | refine d_no [3, 4] rfl rfl rfl (by kernel_rfl) (fun _ h => by first | exact h | exact Hp.sub h (.cons _ (.refl _)) | exact Hp.sub h (.cons _ (.cons _ (.refl _))) | exact Hp.sub h (.cons _ (.cons _ (.cons _ (.refl _)))) | exact Hp.sub h (.cons _ (.cons _ (.cons _ (.cons _ (.refl _))))) | exact Hp.sub h (.cons _ (.cons _ (.cons _ (.cons _ (.cons _ (.refl _)))))) | exact Hp.sub h (.cons _ (.cons _ (.cons _ (.cons _ (.cons _ (.cons _ (.refl _))))))) | exact Hp.sub h (.cons_cons _ (.cons_cons _ (List.nil_sublist _))) | exact Hp.sub h (.cons _ (.cons_cons _ (.cons_cons _ (List.nil_sublist _))))) ?_ | refine d_T [3, 4] rfl rfl rfl rfl (by first | omega | assumption | (simp; done) | exact fun h => h (by assumption) | fail) ?_ | refine d_F [3, 4] rfl rfl rfl rfl (by first | omega | assumption | (simp; done) | exact fun h => h (by assumption) | fail) ?_)
    refine d_v [4] rfl rfl (by kernel_rfl) (fun _ h => by first | exact h | exact Hp.sub h (.cons _ (.refl _)) | exact Hp.sub h (.cons _ (.cons _ (.refl _))) | exact Hp.sub h (.cons _ (.cons _ (.cons _ (.refl _)))) | exact Hp.sub h (.cons _ (.cons _ (.cons _ (.cons _ (.refl _))))) | exact Hp.sub h (.cons _ (.cons _ (.cons _ (.cons _ (.cons _ (.refl _)))))) | exact Hp.sub h (.cons _ (.cons _ (.cons _ (.cons _ (.cons _ (.cons _ (.refl _))))))) | exact Hp.sub h (.cons_cons _ (.cons_cons _ (List.nil_sublist _))) | exact Hp.sub h (.cons _ (.cons_cons _ (.cons_cons _ (List.nil_sublist _))))) rfl rfl (v_lw rfl (by repeat first | exact .head _ | apply List.Mem.tail)) ?_
    (repeat first | (apply d_w [4] rfl rfl rfl (by kernel_rfl) (fun _ h => by first | exact h | exact Hp.sub h (.cons _ (.refl _)) | exact Hp.sub h (.cons _ (.cons _ (.refl _))) | exact Hp.sub h (.cons _ (.cons _ (.cons _ (.refl _)))) | exact Hp.sub h (.cons _ (.cons _ (.cons _ (.cons _ (.refl _))))) | exact Hp.sub h (.cons _ (.cons _ (.cons _ (.cons _ (.cons _ (.refl _)))))) | exact Hp.sub h (.cons _ (.cons _ (.cons _ (.cons _ (.cons _ (.cons _ (.refl _))))))) | exact Hp.sub h (.cons_cons _ (.cons_cons _ (List.nil_sublist _))) | exact Hp.sub h (.cons _ (.cons_cons _ (.cons_cons _ (List.nil_sublist _))))); focus (first | exact v_move rfl | exact v_assign rfl | exact v_bt rfl rfl | exact v_extract rfl rfl | exact v_field0 rfl rfl | exact v_field rfl rfl | exact v_lens rfl rfl | exact v_lenstr rfl rfl | exact v_nt rfl | exact v_load1p rfl rfl (by repeat first | exact .head _ | apply List.Mem.tail) | exact v_loadn rfl rfl (by repeat first | exact .head _ | apply List.Mem.tail) rfl | exact v_loadp rfl rfl (by repeat first | exact .head _ | apply List.Mem.tail) rfl | exact v_loada rfl rfl (by repeat first | exact .head _ | apply List.Mem.tail) | exact v_eqb rfl rfl rfl | exact v_slA rfl rfl rfl | exact v_builds rfl rfl rfl rfl rfl | exact v_eqs rfl rfl | exact v_nc rfl | exact v_caps rfl rfl | exact v_eqpn rfl rfl rfl | exact v_nepn rfl rfl rfl | exact v_neps rfl rfl rfl rfl | ((first | refine v_bn rfl rfl ?_ | refine v_is1 rfl rfl rfl ?_ | refine v_ia1 rfl rfl rfl ?_ | refine v_sa rfl rfl rfl ?_ | refine v_sF rfl rfl rfl ?_ | refine v_sT rfl rfl rfl ?_ | refine v_sFT rfl rfl rfl rfl ?_ | refine v_lF rfl rfl rfl rfl ?_ | refine v_is rfl rfl rfl ?_ | refine v_ia rfl rfl rfl ?_ | refine v_lT rfl rfl rfl rfl ?_ | refine v_cv rfl rfl rfl ?_ | refine v_slLH rfl rfl rfl rfl rfl ?_ | refine v_sl3 rfl rfl rfl rfl rfl ?_); first | omega | assumption) | exact v_pT rfl rfl (by first | omega | assumption | (simp; done) | exact fun h => h (by assumption) | fail) | exact v_pF rfl rfl (by first | omega | assumption | (simp; done) | exact fun h => h (by assumption) | fail) | exact v_pickB rfl rfl rfl)) | refine d_no [4] rfl rfl rfl (by kernel_rfl) (fun _ h => by first | exact h | exact Hp.sub h (.cons _ (.refl _)) | exact Hp.sub h (.cons _ (.cons _ (.refl _))) | exact Hp.sub h (.cons _ (.cons _ (.cons _ (.refl _)))) | exact Hp.sub h (.cons _ (.cons _ (.cons _ (.cons _ (.refl _))))) | exact Hp.sub h (.cons _ (.cons _ (.cons _ (.cons _ (.cons _ (.refl _)))))) | exact Hp.sub h (.cons _ (.cons _ (.cons _ (.cons _ (.cons _ (.cons _ (.refl _))))))) | exact Hp.sub h (.cons_cons _ (.cons_cons _ (List.nil_sublist _))) | exact Hp.sub h (.cons _ (.cons_cons _ (.cons_cons _ (List.nil_sublist _))))) ?_ | refine d_T [4] rfl rfl rfl rfl (by first | omega | assumption | (simp; done) | exact fun h => h (by assumption) | fail) ?_ | refine d_F [4] rfl rfl rfl rfl (by first | omega | assumption | (simp; done) | exact fun h => h (by assumption) | fail) ?_)
    refine d_opg 4 ⟨by kernel_rfl, by decide⟩ rfl rfl (o_pure rfl (by kernel_rfl) rfl (fun w1 hw1 => rneed_calls pv cv V pm [] (by decide) w1 (ar_here (Here.of (hw1.item (arI A) (by repeat first | exact .head _ | apply List.Mem.tail)) (ar_stable A)) ar.map))) (fun _ _ h => h) fun _ => ?_
    rw [show (514 * ([] : PR).length + 496) / 497 = 0 from rfl]
    refine goE ?_
    refine d_end (by kernel_rfl) ?_
    refine goA ?_
    refine l_w rfl (v_lw rfl (by repeat first | exact .head _ | apply List.Mem.tail)) ?_
    refine l_ctg rfl rfl (by kernel_rfl) rfl (fun w1 hw1 => rcommit_calls pv cv V pm [] (by omega) (by omega) w1 (rsI_rd (ar_here (Here.of (hw1.item (arI A) (by repeat first | exact .head _ | apply List.Mem.tail)) (ar_stable A)) ar.rows).1) (ar_here (Here.of (hw1.item (arI A) (by repeat first | exact .head _ | apply List.Mem.tail)) (ar_stable A)) ar.map)) fun x hx => ?_
    obtain ⟨pv', cv', pm'⟩ := x
    rw [overV_nil]
    simp only [List.cons_append, List.nil_append]
    refine goA ?_
    refine l_op rfl (ho_perm (bring5 _ _ _ _ _ _ _) (o_storerE (V := [.slice (some ⟨pv', 0, none⟩) V.length cv', .map (some pm')]) rfl rfl rfl rfl rfl rfl (show (2 + 2 : Nat) ≤ 5 from by decide))) fun _ => ?_
    refine goA ?_
    refine x_imp (m' := lwL log ⟨xb, s, d, pv', cv', pm', V, [], rsI pv' V :: mC pm' [] :: A⟩) (fun w' hw' => ?_) ?_
    · have h1 := ar_add (mapN_stable _ _ _ _) ar.stable (hw'.pick [2, 8, 1, 0, 3, 4, 5, 7] rfl rfl)
      exact (ar_add (rsI_stable _ _) (fun it hm => by rcases List.mem_cons.1 hm with rfl | hm; exact mapN_stable _ _ _ _; exact ar.stable it hm) (h1.pick [1, 0, 2, 3, 4, 5, 6] rfl rfl)).pick [1, 2, 3, 4, 5, 0] rfl rfl
    · exact x_ct (true, ⟨xb, s, d, pv', cv', pm', V, [], rsI pv' V :: mC pm' [] :: A⟩) rfl rfl rfl (.inl ⟨rfl, rfl, rfl, fun _ h => .tail _ (.tail _ h), ⟨hst.more (by omega), ar_both ar xb s d, hl1, hl2, hB2⟩, id⟩) (.refl _) (lw_stable log _)
  · refine l_opg rfl (o_cu (pre := [pgI s d, dkI d, ctI]) rfl (by kernel_rfl) rfl (pdc_stable s d) (fun w1 hw1 hh1 ha1 => pcommit_calls s d 128 log noteB V C B hst (by omega) hC0 w1 hh1 ha1)) fun ⟨⟨e, d1, s1⟩, hp⟩ => ?_
    obtain ⟨q1, q2, q3⟩ := hp
    dsimp only at q1 q2 q3 ⊢
    unfold needC' at q3
    simp only [List.cons_append, List.nil_append]
    refine goA ?_
    refine t_drawp (by kernel_rfl) ?_
    (repeat first | (apply d_w [3, 4] rfl rfl rfl (by kernel_rfl) (fun _ h => by first | exact h | exact Hp.sub h (.cons _ (.refl _)) | exact Hp.sub h (.cons _ (.cons _ (.refl _))) | exact Hp.sub h (.cons _ (.cons _ (.cons _ (.refl _)))) | exact Hp.sub h (.cons _ (.cons _ (.cons _ (.cons _ (.refl _))))) | exact Hp.sub h (.cons _ (.cons _ (.cons _ (.cons _ (.cons _ (.refl _)))))) | exact Hp.sub h (.cons _ (.cons _ (.cons _ (.cons _ (.cons _ (.cons _ (.refl _))))))) | exact Hp.sub h (.cons_cons _ (.cons_cons _ (List.nil_sublist _))) | exact Hp.sub h (.cons _ (.cons_cons _ (.cons_cons _ (List.nil_sublist _))))); focus (first | exact v_move rfl | exact v_assign rfl | exact v_bt rfl rfl | exact v_extract rfl rfl | exact v_field0 rfl rfl | exact v_field rfl rfl | exact v_lens rfl rfl | exact v_lenstr rfl rfl | exact v_nt rfl | exact v_load1p rfl rfl (by repeat first | exact .head _ | apply List.Mem.tail) | exact v_loadn rfl rfl (by repeat first | exact .head _ | apply List.Mem.tail) rfl | exact v_loadp rfl rfl (by repeat first | exact .head _ | apply List.Mem.tail) rfl | exact v_loada rfl rfl (by repeat first | exact .head _ | apply List.Mem.tail) | exact v_eqb rfl rfl rfl | exact v_slA rfl rfl rfl | exact v_builds rfl rfl rfl rfl rfl | exact v_eqs rfl rfl | exact v_nc rfl | exact v_caps rfl rfl | exact v_eqpn rfl rfl rfl | exact v_nepn rfl rfl rfl | exact v_neps rfl rfl rfl rfl | ((first | refine v_bn rfl rfl ?_ | refine v_is1 rfl rfl rfl ?_ | refine v_ia1 rfl rfl rfl ?_ | refine v_sa rfl rfl rfl ?_ | refine v_sF rfl rfl rfl ?_ | refine v_sT rfl rfl rfl ?_ | refine v_sFT rfl rfl rfl rfl ?_ | refine v_lF rfl rfl rfl rfl ?_ | refine v_is rfl rfl rfl ?_ | refine v_ia rfl rfl rfl ?_ | refine v_lT rfl rfl rfl rfl ?_ | refine v_cv rfl rfl rfl ?_ | refine v_slLH rfl rfl rfl rfl rfl ?_ | refine v_sl3 rfl rfl rfl rfl rfl ?_); first | omega | assumption) | exact v_pT rfl rfl (by first | omega | assumption | (simp; done) | exact fun h => h (by assumption) | fail) | exact v_pF rfl rfl (by first | omega | assumption | (simp; done) | exact fun h => h (by assumption) | fail) | exact v_pickB rfl rfl rfl)) | refine d_no [3, 4] rfl rfl rfl (by kernel_rfl) (fun _ h => by first | exact h | exact Hp.sub h (.cons _ (.refl _)) | exact Hp.sub h (.cons _ (.cons _ (.refl _))) | exact Hp.sub h (.cons _ (.cons _ (.cons _ (.refl _)))) | exact Hp.sub h (.cons _ (.cons _ (.cons _ (.cons _ (.refl _))))) | exact Hp.sub h (.cons _ (.cons _ (.cons _ (.cons _ (.cons _ (.refl _)))))) | exact Hp.sub h (.cons _ (.cons _ (.cons _ (.cons _ (.cons _ (.cons _ (.refl _))))))) | exact Hp.sub h (.cons_cons _ (.cons_cons _ (List.nil_sublist _))) | exact Hp.sub h (.cons _ (.cons_cons _ (.cons_cons _ (List.nil_sublist _))))) ?_ | refine d_T [3, 4] rfl rfl rfl rfl (by first | omega | assumption | (simp; done) | exact fun h => h (by assumption) | fail) ?_ | refine d_F [3, 4] rfl rfl rfl rfl (by first | omega | assumption | (simp; done) | exact fun h => h (by assumption) | fail) ?_)
    refine d_v [4] rfl rfl (by kernel_rfl) (fun _ h => by first | exact h | exact Hp.sub h (.cons _ (.refl _)) | exact Hp.sub h (.cons _ (.cons _ (.refl _))) | exact Hp.sub h (.cons _ (.cons _ (.cons _ (.refl _)))) | exact Hp.sub h (.cons _ (.cons _ (.cons _ (.cons _ (.refl _))))) | exact Hp.sub h (.cons _ (.cons _ (.cons _ (.cons _ (.cons _ (.refl _)))))) | exact Hp.sub h (.cons _ (.cons _ (.cons _ (.cons _ (.cons _ (.cons _ (.refl _))))))) | exact Hp.sub h (.cons_cons _ (.cons_cons _ (List.nil_sublist _))) | exact Hp.sub h (.cons _ (.cons_cons _ (.cons_cons _ (List.nil_sublist _))))) rfl rfl (v_lw rfl (by repeat first | exact .head _ | apply List.Mem.tail)) ?_
    (repeat first | (apply d_w [4] rfl rfl rfl (by kernel_rfl) (fun _ h => by first | exact h | exact Hp.sub h (.cons _ (.refl _)) | exact Hp.sub h (.cons _ (.cons _ (.refl _))) | exact Hp.sub h (.cons _ (.cons _ (.cons _ (.refl _)))) | exact Hp.sub h (.cons _ (.cons _ (.cons _ (.cons _ (.refl _))))) | exact Hp.sub h (.cons _ (.cons _ (.cons _ (.cons _ (.cons _ (.refl _)))))) | exact Hp.sub h (.cons _ (.cons _ (.cons _ (.cons _ (.cons _ (.cons _ (.refl _))))))) | exact Hp.sub h (.cons_cons _ (.cons_cons _ (List.nil_sublist _))) | exact Hp.sub h (.cons _ (.cons_cons _ (.cons_cons _ (List.nil_sublist _))))); focus (first | exact v_move rfl | exact v_assign rfl | exact v_bt rfl rfl | exact v_extract rfl rfl | exact v_field0 rfl rfl | exact v_field rfl rfl | exact v_lens rfl rfl | exact v_lenstr rfl rfl | exact v_nt rfl | exact v_load1p rfl rfl (by repeat first | exact .head _ | apply List.Mem.tail) | exact v_loadn rfl rfl (by repeat first | exact .head _ | apply List.Mem.tail) rfl | exact v_loadp rfl rfl (by repeat first | exact .head _ | apply List.Mem.tail) rfl | exact v_loada rfl rfl (by repeat first | exact .head _ | apply List.Mem.tail) | exact v_eqb rfl rfl rfl | exact v_slA rfl rfl rfl | exact v_builds rfl rfl rfl rfl rfl | exact v_eqs rfl rfl | exact v_nc rfl | exact v_caps rfl rfl | exact v_eqpn rfl rfl rfl | exact v_nepn rfl rfl rfl | exact v_neps rfl rfl rfl rfl | ((first | refine v_bn rfl rfl ?_ | refine v_is1 rfl rfl rfl ?_ | refine v_ia1 rfl rfl rfl ?_ | refine v_sa rfl rfl rfl ?_ | refine v_sF rfl rfl rfl ?_ | refine v_sT rfl rfl rfl ?_ | refine v_sFT rfl rfl rfl rfl ?_ | refine v_lF rfl rfl rfl rfl ?_ | refine v_is rfl rfl rfl ?_ | refine v_ia rfl rfl rfl ?_ | refine v_lT rfl rfl rfl rfl ?_ | refine v_cv rfl rfl rfl ?_ | refine v_slLH rfl rfl rfl rfl rfl ?_ | refine v_sl3 rfl rfl rfl rfl rfl ?_); first | omega | assumption) | exact v_pT rfl rfl (by first | omega | assumption | (simp; done) | exact fun h => h (by assumption) | fail) | exact v_pF rfl rfl (by first | omega | assumption | (simp; done) | exact fun h => h (by assumption) | fail) | exact v_pickB rfl rfl rfl)) | refine d_no [4] rfl rfl rfl (by kernel_rfl) (fun _ h => by first | exact h | exact Hp.sub h (.cons _ (.refl _)) | exact Hp.sub h (.cons _ (.cons _ (.refl _))) | exact Hp.sub h (.cons _ (.cons _ (.cons _ (.refl _)))) | exact Hp.sub h (.cons _ (.cons _ (.cons _ (.cons _ (.refl _))))) | exact Hp.sub h (.cons _ (.cons _ (.cons _ (.cons _ (.cons _ (.refl _)))))) | exact Hp.sub h (.cons _ (.cons _ (.cons _ (.cons _ (.cons _ (.cons _ (.refl _))))))) | exact Hp.sub h (.cons_cons _ (.cons_cons _ (List.nil_sublist _))) | exact Hp.sub h (.cons _ (.cons_cons _ (.cons_cons _ (List.nil_sublist _))))) ?_ | refine d_T [4] rfl rfl rfl rfl (by first | omega | assumption | (simp; done) | exact fun h => h (by assumption) | fail) ?_ | refine d_F [4] rfl rfl rfl rfl (by first | omega | assumption | (simp; done) | exact fun h => h (by assumption) | fail) ?_)
    refine d_opg 4 ⟨by kernel_rfl, by decide⟩ rfl rfl (o_pure rfl (by kernel_rfl) rfl (fun w1 hw1 => rneed_calls pv cv V pm C (by omega) w1 (ar_here (Here.of (hw1.item (arI A) (by repeat first | exact .head _ | apply List.Mem.tail)) (ar_stable A)) ar.map))) (fun _ _ h => h) fun _ => ?_
    generalize (514 * C.length + 496) / 497 = nd at q3 ⊢
    refine goE ?_
    refine d_end (by kernel_rfl) ?_
    rcases q3 with ⟨rfl, hlt, hD, rfl⟩ | ⟨hge, rfl, hlv, hsx⟩ | ⟨hge, rfl, hlf, hoff⟩
    · refine goA ?_
      refine l_w rfl (v_lw rfl (by repeat first | exact .head _ | apply List.Mem.tail)) ?_
      refine l_ctg rfl rfl (by kernel_rfl) rfl (fun w1 hw1 => rabort_calls pv cv V pm w1) fun x hx => ?_
      simp only [List.cons_append, List.nil_append]
      refine goA ?_
      refine l_op rfl (ho_perm (bring4 _ _ _ _ _ _) (o_storerE (V := [.slice (some ⟨pv, 0, none⟩) V.length cv, .map (some x)]) rfl rfl rfl rfl rfl rfl (show (2 + 2 : Nat) ≤ 5 from by decide))) fun _ => ?_
      refine goA ?_
      rw [← q1]
      refine x_imp (m' := lwL log ⟨xb, { s with C := [] }, d1, pv, cv, x, V, [], mC x [] :: A⟩) (fun w' hw' => ?_) ?_
      · exact (ar_add (mapN_stable _ _ _ _) ar.stable (hw'.pick [1, 7, 0, 2, 3, 4, 6] rfl rfl)).pick [1, 2, 3, 4, 5, 0] rfl rfl
      · exact x_ct (true, ⟨xb, { s with C := [] }, d1, pv, cv, x, V, [], mC x [] :: A⟩) rfl rfl rfl (.inl ⟨rfl, rfl, q1, fun _ h => .tail _ h, ⟨by show StX { s with C := [] } d1.D 128 log noteB V [] (B + 601); rw [hD]; exact hst.abort.more (by omega), ar_map ar xb _ d1, hl1, hl2, hB2⟩, fun h => by show d1.D.left = none; rw [hD]; exact h⟩) (.refl _) (lw_stable log _)
    · have hng : ¬ log < nd := by omega
      refine goA ?_
      refine l_w rfl (v_lw rfl (by repeat first | exact .head _ | apply List.Mem.tail)) ?_
      refine l_ctg rfl rfl (by kernel_rfl) rfl (fun w1 hw1 => rcommit_calls pv cv V pm C (by omega) (by omega) w1 (rsI_rd (ar_here (Here.of (hw1.item (arI A) (by repeat first | exact .head _ | apply List.Mem.tail)) (ar_stable A)) ar.rows).1) (ar_here (Here.of (hw1.item (arI A) (by repeat first | exact .head _ | apply List.Mem.tail)) (ar_stable A)) ar.map)) fun x hx => ?_
      obtain ⟨pv', cv', pm'⟩ := x
      simp only [List.cons_append, List.nil_append]
      refine goA ?_
      refine l_op rfl (ho_perm (bring5 _ _ _ _ _ _ _) (o_storerE (V := [.slice (some ⟨pv', 0, none⟩) V.length cv', .map (some pm')]) rfl rfl rfl rfl rfl rfl (show (2 + 2 : Nat) ≤ 5 from by decide))) fun _ => ?_
      refine goA ?_
      have hov : V.length = (overV V C).length := (overV_len V C).symm
      rw [← q1, ← q2, hov]
      refine x_imp (m' := lwL log ⟨xb, s1, d1, pv', cv', pm', overV V C, [], rsI pv' (overV V C) :: mC pm' [] :: A⟩) (fun w' hw' => ?_) ?_
      · have h1 := ar_add (mapN_stable _ _ _ _) ar.stable (hw'.pick [2, 8, 1, 0, 3, 4, 5, 7] rfl rfl)
        exact (ar_add (rsI_stable _ _) (fun it hm => by rcases List.mem_cons.1 hm with rfl | hm; exact mapN_stable _ _ _ _; exact ar.stable it hm) (h1.pick [1, 0, 2, 3, 4, 5, 6] rfl rfl)).pick [1, 2, 3, 4, 5, 0] rfl rfl
      · exact x_ct (true, ⟨xb, s1, d1, pv', cv', pm', overV V C, [], rsI pv' (overV V C) :: mC pm' [] :: A⟩) rfl rfl rfl (.inl ⟨rfl, rfl, q1, fun _ h => .tail _ (.tail _ h), ⟨hsx, ar_both ar xb s1 d1, hl1, hl2, hB2⟩, hlv.left⟩) (.refl _) (lw_stable log _)
    · have hng : ¬ log < nd := by omega
      refine goA ?_
      refine l_w rfl (v_lw rfl (by repeat first | exact .head _ | apply List.Mem.tail)) ?_
      refine l_ctg rfl rfl (by kernel_rfl) rfl (fun w1 hw1 => rcommit_calls pv cv V pm C (by omega) (by omega) w1 (rsI_rd (ar_here (Here.of (hw1.item (arI A) (by repeat first | exact .head _ | apply List.Mem.tail)) (ar_stable A)) ar.rows).1) (ar_here (Here.of (hw1.item (arI A) (by repeat first | exact .head _ | apply List.Mem.tail)) (ar_stable A)) ar.map)) fun x hx => ?_
      obtain ⟨pv', cv', pm'⟩ := x
      simp only [List.cons_append, List.nil_append]
      refine goA ?_
      refine l_op rfl (ho_perm (bring5 _ _ _ _ _ _ _) (o_storerE (V := [.slice (some ⟨pv', 0, none⟩) V.length cv', .map (some pm')]) rfl rfl rfl rfl rfl rfl (show (2 + 2 : Nat) ≤ 5 from by decide))) fun _ => ?_
      refine goA ?_
      have hov : V.length = (overV V C).length := (overV_len V C).symm
      rw [← q1, ← q2, hov]
      refine x_imp (m' := lwL log ⟨xb, s1, d1, pv', cv', pm', overV V C, [], rsI pv' (overV V C) :: mC pm' [] :: A⟩) (fun w' hw' => ?_) ?_
      · have h1 := ar_add (mapN_stable _ _ _ _) ar.stable (hw'.pick [2, 8, 1, 0, 3, 4, 5, 7] rfl rfl)
        exact (ar_add (rsI_stable _ _) (fun it hm => by rcases List.mem_cons.1 hm with rfl | hm; exact mapN_stable _ _ _ _; exact ar.stable it hm) (h1.pick [1, 0, 2, 3, 4, 5, 6] rfl rfl)).pick [1, 2, 3, 4, 5, 0] rfl rfl
      · exact x_ct (false, ⟨xb, s1, d1, pv', cv', pm', overV V C, [], rsI pv' (overV V C) :: mC pm' [] :: A⟩) rfl rfl rfl (.inr ⟨rfl, q1, fun _ h => .tail _ (.tail _ h), (ar_both ar xb s1 d1).stable, hoff, hlf⟩) (.refl _) (lw_stable log _)
end Go.Proofs.YtplhamichcnmmaaGreatDoor
