/- law 8: Does: Free, Page. -/
import Derived.Test.YtplhamichcnmmaaGreatDoorHc41
namespace Go.Proofs.YtplhamichcnmmaaGreatDoor
open Go.RowKit Go.Eng Go.Eng.Bm
set_option maxRecDepth 100000
set_option maxHeartbeats 40000000
theorem pgfree_bad (s : Pg) (d : Dk) (i : Int) (hi : i < 0 ∨ (s.n : Int) ≤ i) (w : World) (h : Here (pgI s d) w) : Pu Tryz.prog 23 #[.pointer (some ⟨s.b, 0, none⟩), .int .i64 i] w (.int .i64 2) := by
  refine pu_of [_, _] Tryz.func23 rfl rfl ?_
  simp only [argSlots, Nat.reduceAdd]
  refine goA ?_
  refine l_opg rfl (o_pure rfl (by kernel_rfl) rfl (fun w1 hw1 => may_calls s d i w1 (h.keep hw1))) fun _ => ?_
  rw [show mayK s i = 2 by rw [mayK, if_pos hi]]
  refine goA ?_
  exact x_pu rfl rfl rfl
theorem does2_calls (log : Nat) (x : Lw) (B : Nat) (ok : LwOk x log B) (N : Int) (c : UInt8) (keep : Bys) (w : World) (hw : ∀ it ∈ lwL log x, Here it w) (ha : (lwL log x).Pairwise Eng.Item.Apart) :
    Ct Tryz.prog 9 #[.pointer (some ⟨x.xb, 0, none⟩), .agg (actA 2 N c keep)] w (foots (lwL log x)) (fun _ : Lw => .bool true) (DoesP x log B) (fun y => lwL log y) := by
  obtain ⟨hst, ar, hl1, hl2, hB⟩ := ok
  have hl := hst.len
  have hn := hst.hn
  have ho := hst.ok
  have hz := hst.siz
  have hr := hst.rest
  have hwt : x.d.D.wait.length ≤ 1000000000 := by rw [hr.wait]; decide
  obtain ⟨xb, s, d, pv, cv, pm, V, C, A⟩ := x
  dsimp only at hst hl hn ho hz hr hwt ⊢
  obtain ⟨S, hS1, hS2, hS3⟩ := hst.bm
  have hSp : pageB s d.D 0 = bmB s.n S := by rw [hst.pageB (by decide), hS1, hn]
  have hSw : viewF V C 0 = bmB V.length S := by rw [hS1, hl]
  have hS2' : Canon s.n S := by rw [hn]; exact hS2
  refine cu_of [_, _] _ Tryz.func9 rfl rfl hw ha ?_
  unfold lwL lwC
  dsimp only
  simp only [argSlots, Nat.reduceAdd]
  refine goA ?_
  refine l_boxa rfl rfl fun b3 hb3 => ?_
  refine goA ?_
  refine t_pick [2, 3, 1, 0, 4, 5, 6] rfl rfl ?_
  refine t_drawm [2, 3, 4, 5, 6] 8 rfl rfl (by kernel_rfl) ?_
  (repeat first | (apply d_w [6] rfl rfl rfl (by kernel_rfl) (fun _ h => by first | exact h | exact Hp.sub h (.cons _ (.refl _)) | exact Hp.sub h (.cons _ (.cons _ (.refl _))) | exact Hp.sub h (.cons _ (.cons _ (.cons _ (.refl _)))) | exact Hp.sub h (.cons _ (.cons _ (.cons _ (.cons _ (.refl _))))) | exact Hp.sub h (.cons _ (.cons _ (.cons _ (.cons _ (.cons _ (.refl _)))))) | exact Hp.sub h (.cons _ (.cons _ (.cons _ (.cons _ (.cons _ (.cons _ (.refl _))))))) | exact Hp.sub h (.cons_cons _ (.cons_cons _ (List.nil_sublist _))) | exact Hp.sub h (.cons _ (.cons_cons _ (.cons_cons _ (List.nil_sublist _))))); focus (first | exact v_move rfl | exact v_assign rfl | exact v_bt rfl rfl | exact v_extract rfl rfl | exact v_field0 rfl rfl | exact v_field rfl rfl | exact v_lens rfl rfl | exact v_lenstr rfl rfl | exact v_nt rfl | exact v_load1p rfl rfl (by repeat first | exact .head _ | apply List.Mem.tail) | exact v_loadn rfl rfl (by repeat first | exact .head _ | apply List.Mem.tail) rfl | exact v_loadp rfl rfl (by repeat first | exact .head _ | apply List.Mem.tail) rfl | exact v_loada rfl rfl (by repeat first | exact .head _ | apply List.Mem.tail) | exact v_eqb rfl rfl rfl | exact v_slA rfl rfl rfl | exact v_builds rfl rfl rfl rfl rfl | exact v_eqs rfl rfl | exact v_nc rfl | exact v_caps rfl rfl | exact v_eqpn rfl rfl rfl | exact v_nepn rfl rfl rfl | exact v_neps rfl rfl rfl rfl | ((first | refine v_bn rfl rfl ?_ | refine v_is1 rfl rfl rfl ?_ | refine v_ia1 rfl rfl rfl ?_ | refine v_sa rfl rfl rfl ?_ | refine v_sF rfl rfl rfl ?_ | refine v_sT rfl rfl rfl ?_ | refine v_sFT rfl rfl rfl rfl ?_ | refine v_lF rfl rfl rfl rfl ?_ | refine v_is rfl rfl rfl ?_ | refine v_ia rfl rfl rfl ?_ | refine v_lT rfl rfl rfl rfl ?_ | refine v_cv rfl rfl rfl ?_ | refine v_slLH rfl rfl rfl rfl rfl ?_ | refine v_sl3 rfl rfl rfl rfl rfl ?_); first | omega | assumption) | exact v_pT rfl rfl (by first | omega | assumption | (simp; done) | exact fun h => h (by assumption) | fail) | exact v_pF rfl rfl (by first | omega | assumption | (simp; done) | exact fun h => h (by assumption) | fail) | exact v_pickB rfl rfl rfl)) | refine d_no [6] rfl rfl rfl (by kernel_rfl) (fun _ h => by first | exact h | exact Hp.sub h (.cons _ (.refl _)) | exact Hp.sub h (.cons _ (.cons _ (.refl _))) | exact Hp.sub h (.cons _ (.cons _ (.cons _ (.refl _)))) | exact Hp.sub h (.cons _ (.cons _ (.cons _ (.cons _ (.refl _))))) | exact Hp.sub h (.cons _ (.cons _ (.cons _ (.cons _ (.cons _ (.refl _)))))) | exact Hp.sub h (.cons _ (.cons _ (.cons _ (.cons _ (.cons _ (.cons _ (.refl _))))))) | exact Hp.sub h (.cons_cons _ (.cons_cons _ (List.nil_sublist _))) | exact Hp.sub h (.cons _ (.cons_cons _ (.cons_cons _ (List.nil_sublist _))))) ?_ | refine d_T [6] rfl rfl rfl rfl (by first | omega | assumption | (simp; done) | exact fun h => h (by assumption) | fail) ?_ | refine d_F [6] rfl rfl rfl rfl (by first | omega | assumption | (simp; done) | exact fun h => h (by assumption) | fail) ?_)
  by_cases hbad : N < 0 ∨ (s.n : Int) ≤ N
  · refine d_opg 6 ⟨by kernel_rfl, by decide⟩ rfl rfl (o_pure rfl (by kernel_rfl) rfl (fun w1 hw1 => pgfree_bad s d N hbad w1 (Here.of (hw1.item (pgI s d) (by repeat first | exact .head _ | apply List.Mem.tail)) (pgI_stable s d)))) (fun _ _ h => goH h) fun _ => ?_
    refine goE ?_
    refine d_end (by kernel_rfl) ?_
    refine goA ?_
    refine t_pick [2, 0, 1, 3, 4, 5, 6] rfl rfl ?_
    refine t_drawm [1, 2, 3, 4, 5, 6] 15 rfl rfl (by kernel_rfl) ?_
    (repeat first | (apply d_w [4] rfl rfl rfl (by kernel_rfl) (fun _ h => by first | exact h | exact Hp.sub h (.cons _ (.refl _)) | exact Hp.sub h (.cons _ (.cons _ (.refl _))) | exact Hp.sub h (.cons _ (.cons _ (.cons _ (.refl _)))) | exact Hp.sub h (.cons _ (.cons _ (.cons _ (.cons _ (.refl _))))) | exact Hp.sub h (.cons _ (.cons _ (.cons _ (.cons _ (.cons _ (.refl _)))))) | exact Hp.sub h (.cons _ (.cons _ (.cons _ (.cons _ (.cons _ (.cons _ (.refl _))))))) | exact Hp.sub h (.cons_cons _ (.cons_cons _ (List.nil_sublist _))) | exact Hp.sub h (.cons _ (.cons_cons _ (.cons_cons _ (List.nil_sublist _))))); focus (first | exact v_move rfl | exact v_assign rfl | exact v_bt rfl rfl | exact v_extract rfl rfl | exact v_field0 rfl rfl | exact v_field rfl rfl | exact v_lens rfl rfl | exact v_lenstr rfl rfl | exact v_nt rfl | exact v_load1p rfl rfl (by repeat first | exact .head _ | apply List.Mem.tail) | exact v_loadn rfl rfl (by repeat first | exact .head _ | apply List.Mem.tail) rfl | exact v_loadp rfl rfl (by repeat first | exact .head _ | apply List.Mem.tail) rfl | exact v_loada rfl rfl (by repeat first | exact .head _ | apply List.Mem.tail) | exact v_eqb rfl rfl rfl | exact v_slA rfl rfl rfl | exact v_builds rfl rfl rfl rfl rfl | exact v_eqs rfl rfl | exact v_nc rfl | exact v_caps rfl rfl | exact v_eqpn rfl rfl rfl | exact v_nepn rfl rfl rfl | exact v_neps rfl rfl rfl rfl | ((first | refine v_bn rfl rfl ?_ | refine v_is1 rfl rfl rfl ?_ | refine v_ia1 rfl rfl rfl ?_ | refine v_sa rfl rfl rfl ?_ | refine v_sF rfl rfl rfl ?_ | refine v_sT rfl rfl rfl ?_ | refine v_sFT rfl rfl rfl rfl ?_ | refine v_lF rfl rfl rfl rfl ?_ | refine v_is rfl rfl rfl ?_ | refine v_ia rfl rfl rfl ?_ | refine v_lT rfl rfl rfl rfl ?_ | refine v_cv rfl rfl rfl ?_ | refine v_slLH rfl rfl rfl rfl rfl ?_ | refine v_sl3 rfl rfl rfl rfl rfl ?_); first | omega | assumption) | exact v_pT rfl rfl (by first | omega | assumption | (simp; done) | exact fun h => h (by assumption) | fail) | exact v_pF rfl rfl (by first | omega | assumption | (simp; done) | exact fun h => h (by assumption) | fail) | exact v_pickB rfl rfl rfl)) | refine d_no [4] rfl rfl rfl (by kernel_rfl) (fun _ h => by first | exact h | exact Hp.sub h (.cons _ (.refl _)) | exact Hp.sub h (.cons _ (.cons _ (.refl _))) | exact Hp.sub h (.cons _ (.cons _ (.cons _ (.refl _)))) | exact Hp.sub h (.cons _ (.cons _ (.cons _ (.cons _ (.refl _))))) | exact Hp.sub h (.cons _ (.cons _ (.cons _ (.cons _ (.cons _ (.refl _)))))) | exact Hp.sub h (.cons _ (.cons _ (.cons _ (.cons _ (.cons _ (.cons _ (.refl _))))))) | exact Hp.sub h (.cons_cons _ (.cons_cons _ (List.nil_sublist _))) | exact Hp.sub h (.cons _ (.cons_cons _ (.cons_cons _ (List.nil_sublist _))))) ?_ | refine d_T [4] rfl rfl rfl rfl (by first | omega | assumption | (simp; done) | exact fun h => h (by assumption) | fail) ?_ | refine d_F [4] rfl rfl rfl rfl (by first | omega | assumption | (simp; done) | exact fun h => h (by assumption) | fail) ?_)
    refine d_opg 4 ⟨by kernel_rfl, by decide⟩ rfl rfl (o_val rfl (v_lw rfl (by repeat first | exact .head _ | apply List.Mem.tail))) (fun _ _ h => goH h) fun _ => ?_
    refine d_opg 7 ⟨by kernel_rfl, by decide⟩ rfl rfl (o_pure rfl (by kernel_rfl) rfl (fun w1 hw1 => rfree_bad pv cv V pm N (by omega) w1)) (fun _ _ h => goH h) fun _ => ?_
    refine goE ?_
    refine d_opg 13 ⟨by kernel_rfl, by decide⟩ rfl rfl (o_storerE (V := [.slice (some ⟨pv, 0, none⟩) V.length cv, .map (some pm)]) rfl rfl rfl rfl rfl rfl (show (2 + 2 : Nat) ≤ 5 from by decide)) (fun _ _ h => goH h) fun _ => ?_
    refine goE ?_
    refine d_end (by kernel_rfl) ?_
    refine goA ?_
    refine x_pick [0, 1, 2, 4, 5, 6] rfl rfl ?_
    exact x_ct ⟨xb, s, d, pv, cv, pm, V, C, A⟩ rfl rfl rfl ⟨rfl, rfl, fun _ h => h, ⟨hst, ⟨ar.stable, ar.rows, ar.map⟩, hl1, hl2, hB⟩, id⟩ (.refl _) (lw_stable log ⟨xb, s, d, pv, cv, pm, V, C, A⟩)
  · obtain ⟨i, rfl⟩ : ∃ i : Nat, N = i := ⟨N.toNat, by omega⟩
    have hi : i < s.n := by omega
    refine d_opg 6 ⟨by kernel_rfl, by decide⟩ rfl rfl (o_cu (pre := [pgI s d, dkI d]) rfl (by kernel_rfl) rfl (pd_stable s d) (fun w1 hw1 hh1 ha1 => pgfree_calls s d hz.ok hr.live hwt hst.dead ho (by omega) S hSp hS2' hS3 i hi w1 hh1 ha1)) (fun _ _ h => goH h) fun ⟨_, _⟩ => ?_
    have hst2 := hst.page (i := 0) (by decide)
    by_cases hno : i = 0 ∨ S i = false
    · simp only [if_pos hno]
      have hsb2 := pageS_b s d.D 0
      generalize pageS s d.D 0 = s2 at hst2 hsb2 ⊢
      simp only [List.cons_append, List.nil_append]
      refine goE ?_
      refine d_end (by kernel_rfl) ?_
      refine goA ?_
      refine t_pick [2, 0, 1, 3, 4, 5, 6] rfl rfl ?_
      refine t_drawm [1, 2, 3, 4, 5, 6] 15 rfl rfl (by kernel_rfl) ?_
      (repeat first | (apply d_w [4] rfl rfl rfl (by kernel_rfl) (fun _ h => by first | exact h | exact Hp.sub h (.cons _ (.refl _)) | exact Hp.sub h (.cons _ (.cons _ (.refl _))) | exact Hp.sub h (.cons _ (.cons _ (.cons _ (.refl _)))) | exact Hp.sub h (.cons _ (.cons _ (.cons _ (.cons _ (.refl _))))) | exact Hp.sub h (.cons _ (.cons _ (.cons _ (.cons _ (.cons _ (.refl _)))))) | exact Hp.sub h (.cons _ (.cons _ (.cons _ (.cons _ (.cons _ (.cons _ (.refl _))))))) | exact Hp.sub h (.cons_cons _ (.cons_cons _ (List.nil_sublist _))) | exact Hp.sub h (.cons _ (.cons_cons _ (.cons_cons _ (List.nil_sublist _))))); focus (first | exact v_move rfl | exact v_assign rfl | exact v_bt rfl rfl | exact v_extract rfl rfl | exact v_field0 rfl rfl | exact v_field rfl rfl | exact v_lens rfl rfl | exact v_lenstr rfl rfl | exact v_nt rfl | exact v_load1p rfl rfl (by repeat first | exact .head _ | apply List.Mem.tail) | exact v_loadn rfl rfl (by repeat first | exact .head _ | apply List.Mem.tail) rfl | exact v_loadp rfl rfl (by repeat first | exact .head _ | apply List.Mem.tail) rfl | exact v_loada rfl rfl (by repeat first | exact .head _ | apply List.Mem.tail) | exact v_eqb rfl rfl rfl | exact v_slA rfl rfl rfl | exact v_builds rfl rfl rfl rfl rfl | exact v_eqs rfl rfl | exact v_nc rfl | exact v_caps rfl rfl | exact v_eqpn rfl rfl rfl | exact v_nepn rfl rfl rfl | exact v_neps rfl rfl rfl rfl | ((first | refine v_bn rfl rfl ?_ | refine v_is1 rfl rfl rfl ?_ | refine v_ia1 rfl rfl rfl ?_ | refine v_sa rfl rfl rfl ?_ | refine v_sF rfl rfl rfl ?_ | refine v_sT rfl rfl rfl ?_ | refine v_sFT rfl rfl rfl rfl ?_ | refine v_lF rfl rfl rfl rfl ?_ | refine v_is rfl rfl rfl ?_ | refine v_ia rfl rfl rfl ?_ | refine v_lT rfl rfl rfl rfl ?_ | refine v_cv rfl rfl rfl ?_ | refine v_slLH rfl rfl rfl rfl rfl ?_ | refine v_sl3 rfl rfl rfl rfl rfl ?_); first | omega | assumption) | exact v_pT rfl rfl (by first | omega | assumption | (simp; done) | exact fun h => h (by assumption) | fail) | exact v_pF rfl rfl (by first | omega | assumption | (simp; done) | exact fun h => h (by assumption) | fail) | exact v_pickB rfl rfl rfl)) | refine d_no [4] rfl rfl rfl (by kernel_rfl) (fun _ h => by first | exact h | exact Hp.sub h (.cons _ (.refl _)) | exact Hp.sub h (.cons _ (.cons _ (.refl _))) | exact Hp.sub h (.cons _ (.cons _ (.cons _ (.refl _)))) | exact Hp.sub h (.cons _ (.cons _ (.cons _ (.cons _ (.refl _))))) | exact Hp.sub h (.cons _ (.cons _ (.cons _ (.cons _ (.cons _ (.refl _)))))) | exact Hp.sub h (.cons _ (.cons _ (.cons _ (.cons _ (.cons _ (.cons _ (.refl _))))))) | exact Hp.sub h (.cons_cons _ (.cons_cons _ (List.nil_sublist _))) | exact Hp.sub h (.cons _ (.cons_cons _ (.cons_cons _ (List.nil_sublist _))))) ?_ | refine d_T [4] rfl rfl rfl rfl (by first | omega | assumption | (simp; done) | exact fun h => h (by assumption) | fail) ?_ | refine d_F [4] rfl rfl rfl rfl (by first | omega | assumption | (simp; done) | exact fun h => h (by assumption) | fail) ?_)
      refine d_opg 4 ⟨by kernel_rfl, by decide⟩ rfl rfl (o_val rfl (v_lw rfl (by repeat first | exact .head _ | apply List.Mem.tail))) (fun _ _ h => goH h) fun _ => ?_
      have hcall : ∀ w1, Rd w1 (some ⟨pv, 0, none⟩) (strsV V) → Here (mC pm C) w1 → Pu Tryz.prog 36 #[wV pv cv V pm, .int .i64 (i : Int)] w1 (.tuple #[wV pv cv V pm, .int .i64 2]) := fun w1 h1 h2 => by
        by_cases hi0 : i = 0
        · exact rfree_bad pv cv V pm i (by omega) w1
        · exact rfree_no pv cv V pm C S hSw i (by omega) (by omega) (hno.resolve_left hi0) (by omega) w1 h1 h2
      refine d_opg 7 ⟨by kernel_rfl, by decide⟩ rfl rfl (o_pure rfl (by kernel_rfl) rfl (fun w1 hw1 => hcall w1 (rsI_rd (ar_here (Here.of (hw1.item (arI A) (by repeat first | exact .head _ | apply List.Mem.tail)) (ar_stable A)) ar.rows).1) (ar_here (Here.of (hw1.item (arI A) (by repeat first | exact .head _ | apply List.Mem.tail)) (ar_stable A)) ar.map))) (fun _ _ h => goH h) fun _ => ?_
      refine goE ?_
      refine d_opg 13 ⟨by kernel_rfl, by decide⟩ rfl rfl (o_storerE (V := [.slice (some ⟨pv, 0, none⟩) V.length cv, .map (some pm)]) rfl rfl rfl rfl rfl rfl (show (2 + 2 : Nat) ≤ 5 from by decide)) (fun _ _ h => goH h) fun _ => ?_
      refine goE ?_
      refine d_end (by kernel_rfl) ?_
      refine goA ?_
      rw [← hsb2]
      refine x_pick [0, 1, 2, 4, 5, 6] rfl rfl ?_
      exact x_ct ⟨xb, s2, d, pv, cv, pm, V, C, A⟩ rfl rfl rfl ⟨rfl, rfl, fun _ h => h, ⟨hst2, ⟨ar.stable, ar.rows, ar.map⟩, hl1, hl2, hB⟩, id⟩ (.refl _) (lw_stable log ⟨xb, s2, d, pv, cv, pm, V, C, A⟩)
    · have hSi : S i = true := by
        cases h : S i with
        | true => rfl
        | false => exact absurd (.inr h) hno
      have hi0 : i ≠ 0 := fun h => hno (.inl h)
      have hst4 : StX (freeS s d.D S i false) d.D 128 log noteB V (withF V.length C 0 (bmB V.length (upd S i false))) B := by
        unfold freeS
        rw [show bmB s.n (upd S i false) = bmB V.length (upd S i false) by rw [hl, hn]]
        exact hst2.ins (i := 0) (by decide) (bmB_len _ _) (fun _ => ⟨upd S i false, by rw [hl], canon_upd hS2 (by omega), by unfold upd; rw [if_neg (fun h => hi0 h.symm)]; exact hS3⟩)
      have hsb4 : (freeS s d.D S i false).b = s.b := pageS_b s d.D 0
      simp only [if_neg hno]
      generalize freeS s d.D S i false = s4 at hst4 hsb4 ⊢
      simp only [List.cons_append, List.nil_append]
      refine goE ?_
      refine d_end (by kernel_rfl) ?_
      refine goA ?_
      refine t_pick [2, 0, 1, 3, 4, 5, 6] rfl rfl ?_
      refine t_drawm [1, 2, 3, 4, 5, 6] 15 rfl rfl (by kernel_rfl) ?_
      (repeat first | (apply d_w [4] rfl rfl rfl (by kernel_rfl) (fun _ h => by first | exact h | exact Hp.sub h (.cons _ (.refl _)) | exact Hp.sub h (.cons _ (.cons _ (.refl _))) | exact Hp.sub h (.cons _ (.cons _ (.cons _ (.refl _)))) | exact Hp.sub h (.cons _ (.cons _ (.cons _ (.cons _ (.refl _))))) | exact Hp.sub h (.cons _ (.cons _ (.cons _ (.cons _ (.cons _ (.refl _)))))) | exact Hp.sub h (.cons _ (.cons _ (.cons _ (.cons _ (.cons _ (.cons _ (.refl _))))))) | exact Hp.sub h (.cons_cons _ (.cons_cons _ (List.nil_sublist _))) | exact Hp.sub h (.cons _ (.cons_cons _ (.cons_cons _ (List.nil_sublist _))))); focus (first | exact v_move rfl | exact v_assign rfl | exact v_bt rfl rfl | exact v_extract rfl rfl | exact v_field0 rfl rfl | exact v_field rfl rfl | exact v_lens rfl rfl | exact v_lenstr rfl rfl | exact v_nt rfl | exact v_load1p rfl rfl (by repeat first | exact .head _ | apply List.Mem.tail) | exact v_loadn rfl rfl (by repeat first | exact .head _ | apply List.Mem.tail) rfl | exact v_loadp rfl rfl (by repeat first | exact .head _ | apply List.Mem.tail) rfl | exact v_loada rfl rfl (by repeat first | exact .head _ | apply List.Mem.tail) | exact v_eqb rfl rfl rfl | exact v_slA rfl rfl rfl | exact v_builds rfl rfl rfl rfl rfl | exact v_eqs rfl rfl | exact v_nc rfl | exact v_caps rfl rfl | exact v_eqpn rfl rfl rfl | exact v_nepn rfl rfl rfl | exact v_neps rfl rfl rfl rfl | ((first | refine v_bn rfl rfl ?_ | refine v_is1 rfl rfl rfl ?_ | refine v_ia1 rfl rfl rfl ?_ | refine v_sa rfl rfl rfl ?_ | refine v_sF rfl rfl rfl ?_ | refine v_sT rfl rfl rfl ?_ | refine v_sFT rfl rfl rfl rfl ?_ | refine v_lF rfl rfl rfl rfl ?_ | refine v_is rfl rfl rfl ?_ | refine v_ia rfl rfl rfl ?_ | refine v_lT rfl rfl rfl rfl ?_ | refine v_cv rfl rfl rfl ?_ | refine v_slLH rfl rfl rfl rfl rfl ?_ | refine v_sl3 rfl rfl rfl rfl rfl ?_); first | omega | assumption) | exact v_pT rfl rfl (by first | omega | assumption | (simp; done) | exact fun h => h (by assumption) | fail) | exact v_pF rfl rfl (by first | omega | assumption | (simp; done) | exact fun h => h (by assumption) | fail) | exact v_pickB rfl rfl rfl)) | refine d_no [4] rfl rfl rfl (by kernel_rfl) (fun _ h => by first | exact h | exact Hp.sub h (.cons _ (.refl _)) | exact Hp.sub h (.cons _ (.cons _ (.refl _))) | exact Hp.sub h (.cons _ (.cons _ (.cons _ (.refl _)))) | exact Hp.sub h (.cons _ (.cons _ (.cons _ (.cons _ (.refl _))))) | exact Hp.sub h (.cons _ (.cons _ (.cons _ (.cons _ (.cons _ (.refl _)))))) | exact Hp.sub h (.cons _ (.cons _ (.cons _ (.cons _ (.cons _ (.cons _ (.refl _))))))) | exact Hp.sub h (.cons_cons _ (.cons_cons _ (List.nil_sublist _))) | exact Hp.sub h (.cons _ (.cons_cons _ (.cons_cons _ (List.nil_sublist _))))) ?_ | refine d_T [4] rfl rfl rfl rfl (by first | omega | assumption | (simp; done) | exact fun h => h (by assumption) | fail) ?_ | refine d_F [4] rfl rfl rfl rfl (by first | omega | assumption | (simp; done) | exact fun h => h (by assumption) | fail) ?_)
      refine d_opg 4 ⟨by kernel_rfl, by decide⟩ rfl rfl (o_val rfl (v_lw rfl (by repeat first | exact .head _ | apply List.Mem.tail))) (fun _ _ h => goH h) fun _ => ?_
      refine d_opg 7 ⟨by kernel_rfl, by decide⟩ rfl rfl (o_ct rfl (by kernel_rfl) rfl (fun w1 hw1 => rfree_ok pv cv V pm C S hSw i (by omega) (by omega) hSi (by omega) w1 (rsI_rd (ar_here (Here.of (hw1.item (arI A) (by repeat first | exact .head _ | apply List.Mem.tail)) (ar_stable A)) ar.rows).1) (ar_here (Here.of (hw1.item (arI A) (by repeat first | exact .head _ | apply List.Mem.tail)) (ar_stable A)) ar.map))) (fun _ _ h => goH h) fun ⟨pm', _⟩ => ?_
      generalize withF V.length C 0 (bmB V.length (upd S i false)) = C4 at hst4 ⊢
      simp only [List.cons_append, List.nil_append]
      refine goE ?_
      refine d_opg 13 ⟨by kernel_rfl, by decide⟩ rfl rfl (ho_perm (bring1 _ _ _) (o_storerE (V := [.slice (some ⟨pv, 0, none⟩) V.length cv, .map (some pm')]) rfl rfl rfl rfl rfl rfl (show (2 + 2 : Nat) ≤ 5 from by decide))) (fun _ _ h => goH h) fun _ => ?_
      refine goE ?_
      refine d_end (by kernel_rfl) ?_
      refine goA ?_
      rw [← hsb4]
      refine x_imp (m' := lwL log ⟨xb, s4, d, pv, cv, pm', V, C4, mC pm' C4 :: A⟩) (fun w' hw' => ?_) ?_
      · exact (ar_add (mapN_stable _ _ _ _) ar.stable (hw'.pick [1, 7, 0, 2, 3, 5, 6] rfl rfl)).pick [1, 2, 3, 4, 5, 0] rfl rfl
      · exact x_ct ⟨xb, s4, d, pv, cv, pm', V, C4, mC pm' C4 :: A⟩ rfl rfl rfl ⟨rfl, rfl, fun _ h => .tail _ h, ⟨hst4, ar_map ar xb _ d, hl1, hl2, hB⟩, id⟩ (.refl _) (lw_stable log _)
end Go.Proofs.YtplhamichcnmmaaGreatDoor
