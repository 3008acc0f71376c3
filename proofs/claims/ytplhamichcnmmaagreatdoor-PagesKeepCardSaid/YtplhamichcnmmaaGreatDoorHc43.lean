/- law 8: Does: Page. -/
/- law 8: Commit as the plain law says it. -/
import Derived.Test.YtplhamichcnmmaaGreatDoorHc42
namespace Go.Proofs.YtplhamichcnmmaaGreatDoor
open Go.RowKit Go.Eng Go.Eng.Bm
set_option maxRecDepth 100000
set_option maxHeartbeats 40000000
theorem does8_calls (log : Nat) (x : Lw) (B : Nat) (ok : LwOk x log B) (k : Nat) (hk : 8 ≤ k) (N : Int) (c : UInt8) (keep : Bys) (w : World) (hw : ∀ it ∈ lwL log x, Here it w) (ha : (lwL log x).Pairwise Eng.Item.Apart) :
    Ct Tryz.prog 9 #[.pointer (some ⟨x.xb, 0, none⟩), .agg (actA k N c keep)] w (foots (lwL log x)) (fun _ : Lw => .bool true) (DoesP x log B) (fun y => lwL log y) := by
  obtain ⟨hst, ar, hl1, hl2, hB⟩ := ok
  have hl := hst.len
  have hn := hst.hn
  have ho := hst.ok
  have hz := hst.siz
  have hr := hst.rest
  have hwt : x.d.D.wait.length ≤ 1000000000 := by rw [hr.wait]; decide
  obtain ⟨xb, s, d, pv, cv, pm, V, C, A⟩ := x
  dsimp only at hst hl hn ho hz hr hwt ⊢
  have hz8 : ∀ j : Int, j < 8 → ((k : Int) == j) = false := fun j hj => by
    rw [beq_eq_false_iff_ne]; omega
  have h0 := hz8 0 (by decide)
  have h1 := hz8 1 (by decide)
  have h2 := hz8 2 (by decide)
  have h3 := hz8 3 (by decide)
  have h4 := hz8 4 (by decide)
  have h5 := hz8 5 (by decide)
  have h6 := hz8 6 (by decide)
  have h7 := hz8 7 (by decide)
  refine cu_of [_, _] _ Tryz.func9 rfl rfl hw ha ?_
  unfold lwL lwC
  dsimp only
  simp only [argSlots, Nat.reduceAdd]
  refine goA ?_
  refine l_boxa rfl rfl fun b3 hb3 => ?_
  refine goA ?_
  refine t_pick [2, 3, 1, 0, 4, 5, 6] rfl rfl ?_
  refine t_drawm [2, 3, 4, 5, 6] 12 rfl rfl (by kernel_rfl) ?_
  (repeat first | (apply d_w [6] rfl rfl rfl (by kernel_rfl) (fun _ h => by first | exact h | exact Hp.sub h (.cons _ (.refl _)) | exact Hp.sub h (.cons _ (.cons _ (.refl _))) | exact Hp.sub h (.cons _ (.cons _ (.cons _ (.refl _)))) | exact Hp.sub h (.cons _ (.cons _ (.cons _ (.cons _ (.refl _))))) | exact Hp.sub h (.cons _ (.cons _ (.cons _ (.cons _ (.cons _ (.refl _)))))) | exact Hp.sub h (.cons _ (.cons _ (.cons _ (.cons _ (.cons _ (.cons _ (.refl _))))))) | exact Hp.sub h (.cons_cons _ (.cons_cons _ (List.nil_sublist _))) | exact Hp.sub h (.cons _ (.cons_cons _ (.cons_cons _ (List.nil_sublist _))))); focus (first | exact v_move rfl | exact v_assign rfl | exact v_bt rfl rfl | exact v_extract rfl rfl | exact v_field0 rfl rfl | exact v_field rfl rfl | exact v_lens rfl rfl | exact v_lenstr rfl rfl | exact v_nt rfl | exact v_load1p rfl rfl (by repeat first | exact .head _ | apply List.Mem.tail) | exact v_loadn rfl rfl (by repeat first | exact .head _ | apply List.Mem.tail) rfl | exact v_loadp rfl rfl (by repeat first | exact .head _ | apply List.Mem.tail) rfl | exact v_loada rfl rfl (by repeat first | exact .head _ | apply List.Mem.tail) | exact v_eqb rfl rfl rfl | exact v_slA rfl rfl rfl | exact v_builds rfl rfl rfl rfl rfl | exact v_eqs rfl rfl | exact v_nc rfl | exact v_caps rfl rfl | exact v_eqpn rfl rfl rfl | exact v_nepn rfl rfl rfl | exact v_neps rfl rfl rfl rfl | ((first | refine v_bn rfl rfl ?_ | refine v_is1 rfl rfl rfl ?_ | refine v_ia1 rfl rfl rfl ?_ | refine v_sa rfl rfl rfl ?_ | refine v_sF rfl rfl rfl ?_ | refine v_sT rfl rfl rfl ?_ | refine v_sFT rfl rfl rfl rfl ?_ | refine v_lF rfl rfl rfl rfl ?_ | refine v_is rfl rfl rfl ?_ | refine v_ia rfl rfl rfl ?_ | refine v_lT rfl rfl rfl rfl ?_ | refine v_cv rfl rfl rfl ?_ | refine v_slLH rfl rfl rfl rfl rfl ?_ | refine v_sl3 rfl rfl rfl rfl rfl ?_); first | omega | assumption) | exact v_pT rfl rfl (by first | omega | assumption | (simp; done) | exact fun h => h (by assumption) | fail) | exact v_pF rfl rfl (by first | omega | assumption | (simp; done) | exact fun h => h (by assumption) | fail) | exact v_pickB rfl rfl rfl)) | refine d_no [6] rfl rfl rfl (by kernel_rfl) (fun _ h => by first | exact h | exact Hp.sub h (.cons _ (.refl _)) | exact Hp.sub h (.cons _ (.cons _ (.refl _))) | exact Hp.sub h (.cons _ (.cons _ (.cons _ (.refl _)))) | exact Hp.sub h (.cons _ (.cons _ (.cons _ (.cons _ (.refl _))))) | exact Hp.sub h (.cons _ (.cons _ (.cons _ (.cons _ (.cons _ (.refl _)))))) | exact Hp.sub h (.cons _ (.cons _ (.cons _ (.cons _ (.cons _ (.cons _ (.refl _))))))) | exact Hp.sub h (.cons_cons _ (.cons_cons _ (List.nil_sublist _))) | exact Hp.sub h (.cons _ (.cons_cons _ (.cons_cons _ (List.nil_sublist _))))) ?_ | refine d_T [6] rfl rfl rfl rfl (by first | omega | assumption | (simp; done) | exact fun h => h (by assumption) | fail) ?_ | refine d_F [6] rfl rfl rfl rfl (by first | omega | assumption | (simp; done) | exact fun h => h (by assumption) | fail) ?_)
  by_cases hbad : N < 0 ∨ ((128 : Nat) : Int) ≤ N
  · refine d_opg 6 ⟨by kernel_rfl, by decide⟩ rfl rfl (o_pure rfl (by kernel_rfl) rfl (fun w1 hw1 => pgpage_bad s d N (by rw [hn]; exact hbad) w1 (Here.of (hw1.item (pgI s d) (by repeat first | exact .head _ | apply List.Mem.tail)) (pgI_stable s d)))) (fun _ _ h => goH h) fun _ => ?_
    refine goE ?_
    refine d_end (by kernel_rfl) ?_
    refine goA ?_
    refine t_drawp (by kernel_rfl) ?_
    (repeat first | (apply d_w [3, 6] rfl rfl rfl (by kernel_rfl) (fun _ h => by first | exact h | exact Hp.sub h (.cons _ (.refl _)) | exact Hp.sub h (.cons _ (.cons _ (.refl _))) | exact Hp.sub h (.cons _ (.cons _ (.cons _ (.refl _)))) | exact Hp.sub h (.cons _ (.cons _ (.cons _ (.cons _ (.refl _))))) | exact Hp.sub h (.cons _ (.cons _ (.cons _ (.cons _ (.cons _ (.refl _)))))) | exact Hp.sub h (.cons _ (.cons _ (.cons _ (.cons _ (.cons _ (.cons _ (.refl _))))))) | exact Hp.sub h (.cons_cons _ (.cons_cons _ (List.nil_sublist _))) | exact Hp.sub h (.cons _ (.cons_cons _ (.cons_cons _ (List.nil_sublist _))))); focus (first | exact v_move rfl | exact v_assign rfl | exact v_bt rfl rfl | exact v_extract rfl rfl | exact v_field0 rfl rfl | exact v_field rfl rfl | exact v_lens rfl rfl | exact v_lenstr rfl rfl | exact v_nt rfl | exact v_load1p rfl rfl (by repeat first | exact .head _ | apply List.Mem.tail) | exact v_loadn rfl rfl (by repeat first | exact .head _ | apply List.Mem.tail) rfl | exact v_loadp rfl rfl (by repeat first | exact .head _ | apply List.Mem.tail) rfl | exact v_loada rfl rfl (by repeat first | exact .head _ | apply List.Mem.tail) | exact v_eqb rfl rfl rfl | exact v_slA rfl rfl rfl | exact v_builds rfl rfl rfl rfl rfl | exact v_eqs rfl rfl | exact v_nc rfl | exact v_caps rfl rfl | exact v_eqpn rfl rfl rfl | exact v_nepn rfl rfl rfl | exact v_neps rfl rfl rfl rfl | ((first | refine v_bn rfl rfl ?_ | refine v_is1 rfl rfl rfl ?_ | refine v_ia1 rfl rfl rfl ?_ | refine v_sa rfl rfl rfl ?_ | refine v_sF rfl rfl rfl ?_ | refine v_sT rfl rfl rfl ?_ | refine v_sFT rfl rfl rfl rfl ?_ | refine v_lF rfl rfl rfl rfl ?_ | refine v_is rfl rfl rfl ?_ | refine v_ia rfl rfl rfl ?_ | refine v_lT rfl rfl rfl rfl ?_ | refine v_cv rfl rfl rfl ?_ | refine v_slLH rfl rfl rfl rfl rfl ?_ | refine v_sl3 rfl rfl rfl rfl rfl ?_); first | omega | assumption) | exact v_pT rfl rfl (by first | omega | assumption | (simp; done) | exact fun h => h (by assumption) | fail) | exact v_pF rfl rfl (by first | omega | assumption | (simp; done) | exact fun h => h (by assumption) | fail) | exact v_pickB rfl rfl rfl)) | refine d_no [3, 6] rfl rfl rfl (by kernel_rfl) (fun _ h => by first | exact h | exact Hp.sub h (.cons _ (.refl _)) | exact Hp.sub h (.cons _ (.cons _ (.refl _))) | exact Hp.sub h (.cons _ (.cons _ (.cons _ (.refl _)))) | exact Hp.sub h (.cons _ (.cons _ (.cons _ (.cons _ (.refl _))))) | exact Hp.sub h (.cons _ (.cons _ (.cons _ (.cons _ (.cons _ (.refl _)))))) | exact Hp.sub h (.cons _ (.cons _ (.cons _ (.cons _ (.cons _ (.cons _ (.refl _))))))) | exact Hp.sub h (.cons_cons _ (.cons_cons _ (List.nil_sublist _))) | exact Hp.sub h (.cons _ (.cons_cons _ (.cons_cons _ (List.nil_sublist _))))) ?_ | refine d_T [3, 6] rfl rfl rfl rfl (by first | omega | assumption | (simp; done) | exact fun h => h (by assumption) | fail) ?_ | refine d_F [3, 6] rfl rfl rfl rfl (by first | omega | assumption | (simp; done) | exact fun h => h (by assumption) | fail) ?_)
    refine d_v [6] rfl rfl (by kernel_rfl) (fun _ h => by first | exact h | exact Hp.sub h (.cons _ (.refl _)) | exact Hp.sub h (.cons _ (.cons _ (.refl _))) | exact Hp.sub h (.cons _ (.cons _ (.cons _ (.refl _)))) | exact Hp.sub h (.cons _ (.cons _ (.cons _ (.cons _ (.refl _))))) | exact Hp.sub h (.cons _ (.cons _ (.cons _ (.cons _ (.cons _ (.refl _)))))) | exact Hp.sub h (.cons _ (.cons _ (.cons _ (.cons _ (.cons _ (.cons _ (.refl _))))))) | exact Hp.sub h (.cons_cons _ (.cons_cons _ (List.nil_sublist _))) | exact Hp.sub h (.cons _ (.cons_cons _ (.cons_cons _ (List.nil_sublist _))))) rfl rfl (v_lw rfl (by repeat first | exact .head _ | apply List.Mem.tail)) ?_
    (repeat first | (apply d_w [6] rfl rfl rfl (by kernel_rfl) (fun _ h => by first | exact h | exact Hp.sub h (.cons _ (.refl _)) | exact Hp.sub h (.cons _ (.cons _ (.refl _))) | exact Hp.sub h (.cons _ (.cons _ (.cons _ (.refl _)))) | exact Hp.sub h (.cons _ (.cons _ (.cons _ (.cons _ (.refl _))))) | exact Hp.sub h (.cons _ (.cons _ (.cons _ (.cons _ (.cons _ (.refl _)))))) | exact Hp.sub h (.cons _ (.cons _ (.cons _ (.cons _ (.cons _ (.cons _ (.refl _))))))) | exact Hp.sub h (.cons_cons _ (.cons_cons _ (List.nil_sublist _))) | exact Hp.sub h (.cons _ (.cons_cons _ (.cons_cons _ (List.nil_sublist _))))); focus (first | exact v_move rfl | exact v_assign rfl | exact v_bt rfl rfl | exact v_extract rfl rfl | exact v_field0 rfl rfl | exact v_field rfl rfl | exact v_lens rfl rfl | exact v_lenstr rfl rfl | exact v_nt rfl | exact v_load1p rfl rfl (by repeat first | exact .head _ | apply List.Mem.tail) | exact v_loadn rfl rfl (by repeat first | exact .head _ | apply List.Mem.tail) rfl | exact v_loadp rfl rfl (by repeat first | exact .head _ | apply List.Mem.tail) rfl | exact v_loada rfl rfl (by repeat first | exact .head _ | apply List.Mem.tail) | exact v_eqb rfl rfl rfl | exact v_slA rfl rfl rfl | exact v_builds rfl rfl rfl rfl rfl | exact v_eqs rfl rfl | exact v_nc rfl | exact v_caps rfl rfl | exact v_eqpn rfl rfl rfl | exact v_nepn rfl rfl rfl | exact v_neps rfl rfl rfl rfl | ((first | refine v_bn rfl rfl ?_ | refine v_is1 rfl rfl rfl ?_ | refine v_ia1 rfl rfl rfl ?_ | refine v_sa rfl rfl rfl ?_ | refine v_sF rfl rfl rfl ?_ | refine v_sT rfl rfl rfl ?_ | refine v_sFT rfl rfl rfl rfl ?_ | refine v_lF rfl rfl rfl rfl ?_ | refine v_is rfl rfl rfl ?_ | refine v_ia rfl rfl rfl ?_ | refine v_lT rfl rfl rfl rfl ?_ | refine v_cv rfl rfl rfl ?_ | refine v_slLH rfl rfl rfl rfl rfl ?_ | refine v_sl3 rfl rfl rfl rfl rfl ?_); first | omega | assumption) | exact v_pT rfl rfl (by first | omega | assumption | (simp; done) | exact fun h => h (by assumption) | fail) | exact v_pF rfl rfl (by first | omega | assumption | (simp; done) | exact fun h => h (by assumption) | fail) | exact v_pickB rfl rfl rfl)) | refine d_no [6] rfl rfl rfl (by kernel_rfl) (fun _ h => by first | exact h | exact Hp.sub h (.cons _ (.refl _)) | exact Hp.sub h (.cons _ (.cons _ (.refl _))) | exact Hp.sub h (.cons _ (.cons _ (.cons _ (.refl _)))) | exact Hp.sub h (.cons _ (.cons _ (.cons _ (.cons _ (.refl _))))) | exact Hp.sub h (.cons _ (.cons _ (.cons _ (.cons _ (.cons _ (.refl _)))))) | exact Hp.sub h (.cons _ (.cons _ (.cons _ (.cons _ (.cons _ (.cons _ (.refl _))))))) | exact Hp.sub h (.cons_cons _ (.cons_cons _ (List.nil_sublist _))) | exact Hp.sub h (.cons _ (.cons_cons _ (.cons_cons _ (List.nil_sublist _))))) ?_ | refine d_T [6] rfl rfl rfl rfl (by first | omega | assumption | (simp; done) | exact fun h => h (by assumption) | fail) ?_ | refine d_F [6] rfl rfl rfl rfl (by first | omega | assumption | (simp; done) | exact fun h => h (by assumption) | fail) ?_)
    refine d_opg 6 ⟨by kernel_rfl, by decide⟩ rfl rfl (o_pure rfl (by kernel_rfl) rfl (fun w1 hw1 => rpage_bad pv cv V pm N (by rw [hl]; exact hbad) w1)) (fun _ _ h => h) fun _ => ?_
    refine goE ?_
    refine d_end (by kernel_rfl) ?_
    refine goA ?_
    refine l_w rfl (v_bstr (bs := []) rfl rfl rfl rfl (fun w' hw' => .inl rfl)) ?_
    unfold strV
    refine goA ?_
    refine x_pick [2, 0, 1, 4, 5, 6] rfl rfl ?_
    exact x_ct ⟨xb, s, d, pv, cv, pm, V, C, A⟩ rfl rfl rfl ⟨rfl, rfl, fun _ h => h, ⟨hst, ⟨ar.stable, ar.rows, ar.map⟩, hl1, hl2, hB⟩, id⟩ (.refl _) (lw_stable log ⟨xb, s, d, pv, cv, pm, V, C, A⟩)
  · obtain ⟨i, rfl⟩ : ∃ i : Nat, N = i := ⟨N.toNat, by omega⟩
    have hi : i < 128 := by omega
    refine d_opg 6 ⟨by kernel_rfl, by decide⟩ rfl rfl (o_cu (pre := [pgI s d, dkI d]) rfl (by kernel_rfl) rfl (pd_stable s d) (fun w1 hw1 hh1 ha1 => pgpage_calls s d hz.ok hr.live hwt hst.dead ho i (by rw [hn]; exact hi) w1 hh1 ha1)) (fun _ _ h => goH h) fun ⟨b6, _⟩ => ?_
    rw [hst.pageB hi]
    have hst2 := hst.page hi
    have hsb2 := pageS_b s d.D i
    have hvl := hst.vlen hi
    generalize pageS s d.D i = s2 at hst2 hsb2 ⊢
    simp only [List.cons_append, List.nil_append]
    refine goE ?_
    refine d_end (by kernel_rfl) ?_
    refine goA ?_
    refine t_drawp (by kernel_rfl) ?_
    (repeat first | (apply d_w [3, 6] rfl rfl rfl (by kernel_rfl) (fun _ h => by first | exact h | exact Hp.sub h (.cons _ (.refl _)) | exact Hp.sub h (.cons _ (.cons _ (.refl _))) | exact Hp.sub h (.cons _ (.cons _ (.cons _ (.refl _)))) | exact Hp.sub h (.cons _ (.cons _ (.cons _ (.cons _ (.refl _))))) | exact Hp.sub h (.cons _ (.cons _ (.cons _ (.cons _ (.cons _ (.refl _)))))) | exact Hp.sub h (.cons _ (.cons _ (.cons _ (.cons _ (.cons _ (.cons _ (.refl _))))))) | exact Hp.sub h (.cons_cons _ (.cons_cons _ (List.nil_sublist _))) | exact Hp.sub h (.cons _ (.cons_cons _ (.cons_cons _ (List.nil_sublist _))))); focus (first | exact v_move rfl | exact v_assign rfl | exact v_bt rfl rfl | exact v_extract rfl rfl | exact v_field0 rfl rfl | exact v_field rfl rfl | exact v_lens rfl rfl | exact v_lenstr rfl rfl | exact v_nt rfl | exact v_load1p rfl rfl (by repeat first | exact .head _ | apply List.Mem.tail) | exact v_loadn rfl rfl (by repeat first | exact .head _ | apply List.Mem.tail) rfl | exact v_loadp rfl rfl (by repeat first | exact .head _ | apply List.Mem.tail) rfl | exact v_loada rfl rfl (by repeat first | exact .head _ | apply List.Mem.tail) | exact v_eqb rfl rfl rfl | exact v_slA rfl rfl rfl | exact v_builds rfl rfl rfl rfl rfl | exact v_eqs rfl rfl | exact v_nc rfl | exact v_caps rfl rfl | exact v_eqpn rfl rfl rfl | exact v_nepn rfl rfl rfl | exact v_neps rfl rfl rfl rfl | ((first | refine v_bn rfl rfl ?_ | refine v_is1 rfl rfl rfl ?_ | refine v_ia1 rfl rfl rfl ?_ | refine v_sa rfl rfl rfl ?_ | refine v_sF rfl rfl rfl ?_ | refine v_sT rfl rfl rfl ?_ | refine v_sFT rfl rfl rfl rfl ?_ | refine v_lF rfl rfl rfl rfl ?_ | refine v_is rfl rfl rfl ?_ | refine v_ia rfl rfl rfl ?_ | refine v_lT rfl rfl rfl rfl ?_ | refine v_cv rfl rfl rfl ?_ | refine v_slLH rfl rfl rfl rfl rfl ?_ | refine v_sl3 rfl rfl rfl rfl rfl ?_); first | omega | assumption) | exact v_pT rfl rfl (by first | omega | assumption | (simp; done) | exact fun h => h (by assumption) | fail) | exact v_pF rfl rfl (by first | omega | assumption | (simp; done) | exact fun h => h (by assumption) | fail) | exact v_pickB rfl rfl rfl)) | refine d_no [3, 6] rfl rfl rfl (by kernel_rfl) (fun _ h => by first | exact h | exact Hp.sub h (.cons _ (.refl _)) | exact Hp.sub h (.cons _ (.cons _ (.refl _))) | exact Hp.sub h (.cons _ (.cons _ (.cons _ (.refl _)))) | exact Hp.sub h (.cons _ (.cons _ (.cons _ (.cons _ (.refl _))))) | exact Hp.sub h (.cons _ (.cons _ (.cons _ (.cons _ (.cons _ (.refl _)))))) | exact Hp.sub h (.cons _ (.cons _ (.cons _ (.cons _ (.cons _ (.cons _ (.refl _))))))) | exact Hp.sub h (.cons_cons _ (.cons_cons _ (List.nil_sublist _))) | exact Hp.sub h (.cons _ (.cons_cons _ (.cons_cons _ (List.nil_sublist _))))) ?_ | refine d_T [3, 6] rfl rfl rfl rfl (by first | omega | assumption | (simp; done) | exact fun h => h (by assumption) | fail) ?_ | refine d_F [3, 6] rfl rfl rfl rfl (by first | omega | assumption | (simp; done) | exact fun h => h (by assumption) | fail) ?_)
    refine d_v [6] rfl rfl (by kernel_rfl) (fun _ h => by first | exact h | exact Hp.sub h (.cons _ (.refl _)) | exact Hp.sub h (.cons _ (.cons _ (.refl _))) | exact Hp.sub h (.cons _ (.cons _ (.cons _ (.refl _)))) | exact Hp.sub h (.cons _ (.cons _ (.cons _ (.cons _ (.refl _))))) | exact Hp.sub h (.cons _ (.cons _ (.cons _ (.cons _ (.cons _ (.refl _)))))) | exact Hp.sub h (.cons _ (.cons _ (.cons _ (.cons _ (.cons _ (.cons _ (.refl _))))))) | exact Hp.sub h (.cons_cons _ (.cons_cons _ (List.nil_sublist _))) | exact Hp.sub h (.cons _ (.cons_cons _ (.cons_cons _ (List.nil_sublist _))))) rfl rfl (v_lw rfl (by repeat first | exact .head _ | apply List.Mem.tail)) ?_
    (repeat first | (apply d_w [6] rfl rfl rfl (by kernel_rfl) (fun _ h => by first | exact h | exact Hp.sub h (.cons _ (.refl _)) | exact Hp.sub h (.cons _ (.cons _ (.refl _))) | exact Hp.sub h (.cons _ (.cons _ (.cons _ (.refl _)))) | exact Hp.sub h (.cons _ (.cons _ (.cons _ (.cons _ (.refl _))))) | exact Hp.sub h (.cons _ (.cons _ (.cons _ (.cons _ (.cons _ (.refl _)))))) | exact Hp.sub h (.cons _ (.cons _ (.cons _ (.cons _ (.cons _ (.cons _ (.refl _))))))) | exact Hp.sub h (.cons_cons _ (.cons_cons _ (List.nil_sublist _))) | exact Hp.sub h (.cons _ (.cons_cons _ (.cons_cons _ (List.nil_sublist _))))); focus (first | exact v_move rfl | exact v_assign rfl | exact v_bt rfl rfl | exact v_extract rfl rfl | exact v_field0 rfl rfl | exact v_field rfl rfl | exact v_lens rfl rfl | exact v_lenstr rfl rfl | exact v_nt rfl | exact v_load1p rfl rfl (by repeat first | exact .head _ | apply List.Mem.tail) | exact v_loadn rfl rfl (by repeat first | exact .head _ | apply List.Mem.tail) rfl | exact v_loadp rfl rfl (by repeat first | exact .head _ | apply List.Mem.tail) rfl | exact v_loada rfl rfl (by repeat first | exact .head _ | apply List.Mem.tail) | exact v_eqb rfl rfl rfl | exact v_slA rfl rfl rfl | exact v_builds rfl rfl rfl rfl rfl | exact v_eqs rfl rfl | exact v_nc rfl | exact v_caps rfl rfl | exact v_eqpn rfl rfl rfl | exact v_nepn rfl rfl rfl | exact v_neps rfl rfl rfl rfl | ((first | refine v_bn rfl rfl ?_ | refine v_is1 rfl rfl rfl ?_ | refine v_ia1 rfl rfl rfl ?_ | refine v_sa rfl rfl rfl ?_ | refine v_sF rfl rfl rfl ?_ | refine v_sT rfl rfl rfl ?_ | refine v_sFT rfl rfl rfl rfl ?_ | refine v_lF rfl rfl rfl rfl ?_ | refine v_is rfl rfl rfl ?_ | refine v_ia rfl rfl rfl ?_ | refine v_lT rfl rfl rfl rfl ?_ | refine v_cv rfl rfl rfl ?_ | refine v_slLH rfl rfl rfl rfl rfl ?_ | refine v_sl3 rfl rfl rfl rfl rfl ?_); first | omega | assumption) | exact v_pT rfl rfl (by first | omega | assumption | (simp; done) | exact fun h => h (by assumption) | fail) | exact v_pF rfl rfl (by first | omega | assumption | (simp; done) | exact fun h => h (by assumption) | fail) | exact v_pickB rfl rfl rfl)) | refine d_no [6] rfl rfl rfl (by kernel_rfl) (fun _ h => by first | exact h | exact Hp.sub h (.cons _ (.refl _)) | exact Hp.sub h (.cons _ (.cons _ (.refl _))) | exact Hp.sub h (.cons _ (.cons _ (.cons _ (.refl _)))) | exact Hp.sub h (.cons _ (.cons _ (.cons _ (.cons _ (.refl _))))) | exact Hp.sub h (.cons _ (.cons _ (.cons _ (.cons _ (.cons _ (.refl _)))))) | exact Hp.sub h (.cons _ (.cons _ (.cons _ (.cons _ (.cons _ (.cons _ (.refl _))))))) | exact Hp.sub h (.cons_cons _ (.cons_cons _ (List.nil_sublist _))) | exact Hp.sub h (.cons _ (.cons_cons _ (.cons_cons _ (List.nil_sublist _))))) ?_ | refine d_T [6] rfl rfl rfl rfl (by first | omega | assumption | (simp; done) | exact fun h => h (by assumption) | fail) ?_ | refine d_F [6] rfl rfl rfl rfl (by first | omega | assumption | (simp; done) | exact fun h => h (by assumption) | fail) ?_)
    refine d_opg 6 ⟨by kernel_rfl, by decide⟩ rfl rfl (o_pure rfl (by kernel_rfl) rfl (fun w1 hw1 => rpage_ok pv cv V pm C i (by omega) (by omega) w1 (rsI_rd (ar_here (Here.of (hw1.item (arI A) (by repeat first | exact .head _ | apply List.Mem.tail)) (ar_stable A)) ar.rows).1) (ar_here (Here.of (hw1.item (arI A) (by repeat first | exact .head _ | apply List.Mem.tail)) (ar_stable A)) ar.map))) (fun _ _ h => h) fun _ => ?_
    generalize viewF V C i = T at hvl ⊢
    refine goE ?_
    refine d_end (by kernel_rfl) ?_
    refine goA ?_
    refine l_w rfl (v_bstr (bs := T) rfl hvl.symm rfl rfl (fun w' hw' => .inr ⟨b6, 0, rfl, (hw'.item (rdI b6 T) (.head _)).1.1⟩)) ?_
    unfold strV
    refine goA ?_
    rw [← hsb2]
    refine x_pick [3, 1, 2, 5, 6, 7] rfl rfl ?_
    exact x_ct ⟨xb, s2, d, pv, cv, pm, V, C, A⟩ rfl rfl rfl ⟨rfl, rfl, fun _ h => h, ⟨hst2, ⟨ar.stable, ar.rows, ar.map⟩, hl1, hl2, hB⟩, id⟩ (.refl _) (lw_stable log ⟨xb, s2, d, pv, cv, pm, V, C, A⟩)
end Go.Proofs.YtplhamichcnmmaaGreatDoor

namespace Go.Proofs.YtplhamichcnmmaaGreatDoor
open Go.RowKit Go.Eng Go.Eng.Bm
set_option maxRecDepth 100000
def needC' (C : PR) : Nat := (514 * C.length + 496) / 497
def cmP (s : Pg) (d : Dk) (n secs : Nat) (note : Bys) (V : List Bys) (C : PR) (B : Nat) (x : Nat × Dk × Pg) : Prop := x.2.1.b = d.b ∧ x.2.2.b = s.b ∧
  ((x.1 = 6 ∧ secs < needC' C ∧ x.2.1.D = d.D ∧ x.2.2 = { s with C := [] }) ∨
   (needC' C ≤ secs ∧ x.1 = 0 ∧ Lives d.D x.2.1.D ∧ StX x.2.2 x.2.1.D n secs note (overV V C) [] (B + 601)) ∨
   (needC' C ≤ secs ∧ x.1 = 4 ∧ d.D.left ≠ none ∧ (Off x.2.1.D n secs note V (B + 601) ∨ Off x.2.1.D n secs note (overV V C) (B + 601))))
theorem cmR_b (s : Pg) (D : Dsk) (x : PR × List Nat) : (cmR s D x).b = s.b := by
  have h1 : (cm1F s D).2.2.b = s.b := by unfold cm1F; split <;> rfl
  have h2 : (cmF s D).2.2.b = s.b := by
    unfold cmF
    split
    · exact h1
    · exact h1
  unfold cmR
  split
  · exact h2
  · exact h2
theorem pcommit_calls (s : Pg) (d : Dk) (n secs : Nat) (note : Bys) (V : List Bys) (C : PR) (B : Nat) (hst : StX s d.D n secs note V C B) (hB : B + 700 < 9223372036854775808) (hC0 : s.C ≠ []) (w : World) (hw : ∀ it ∈ [pgI s d, dkI d, ctI], Here it w) (ha : [pgI s d, dkI d, ctI].Pairwise Eng.Item.Apart) :
    Ct Tryz.prog 24 #[.pointer (some ⟨s.b, 0, none⟩)] w (foots [pgI s d, dkI d, ctI]) (fun x : Nat × Dk × Pg => .int .i64 (x.1 : Int)) (cmP s d n secs note V C B) (fun x => [pgI x.2.2 x.2.1, dkI x.2.1, ctI]) := by
  have hneed := hst.need hC0
  obtain ⟨TS, h⟩ := hst.st
  have z := h.siz
  have hn := h.hn
  have hs := h.hsecs
  have hnx := h.next
  have hs2 := z.s2
  have hs1 := z.s1
  have hn2 := z.n2
  have hle := hst.le
  have hmany := hst.many
  have hneed' : needF (tC s).length = needC' C := hneed
  have hneedle : needF (tC s).length ≤ 100000 := by rw [hneed]; omega
  have hRl : s.R.length ≤ 1024 := by
    have := nodup_le h.Rn (L := List.range n) fun x hx => List.mem_range.2 (h.Rk x hx).2.2
    rw [List.length_range] at this
    omega
  have hcom := hst.commit hB hC0
  refine Ct.imp (pgcommit_calls s d z.ok hst.keep hst.wait hst.dead (by omega) h.log.hok (by omega) h.log.usedle (by omega) h.log.c01 h.log.dead (by rw [hn]; exact h.Kok) (by rw [hn]; exact h.Cok) (fun i hi => Option.isSome_iff_exists.1 (h.Rk i hi).1) hRl (by omega) hC0 w hw ha) ?_
  rintro ⟨d', x2⟩ ⟨⟨k1, -, k3⟩, kg⟩
  simp only at k1 k3 kg
  rw [hs, hneed'] at k3 kg
  simp only [hs, hneed']
  by_cases hlt : secs < needC' C
  · rw [if_pos hlt] at k3
    refine ⟨(6, d', { s with C := [] }), ?_, ⟨k1, rfl, .inl ⟨rfl, hlt, k3, rfl⟩⟩, ?_⟩
    · simp only [if_pos hlt]
    · simp only [if_pos hlt]
  · rw [if_neg hlt] at k3
    have hge : needC' C ≤ secs := by omega
    refine ⟨((cmF s d.D).1, d', cmR s d.D x2), ?_, ⟨k1, cmR_b _ _ _, .inr ?_⟩, ?_⟩
    · simp only [if_neg hlt]
    · rcases hcom hge with ⟨e, hl, hx⟩ | ⟨e, hlf, ho⟩
      · refine .inl ⟨hge, e, ?_, ?_⟩
        · show Lives d.D d'.D; rw [k3]; exact hl
        · show StX (cmR s d.D x2) d'.D n secs note (overV V C) [] (B + 601)
          rw [k3]; exact hx x2 (kg hlt e)
      · refine .inr ⟨hge, e, hlf, ?_⟩
        show Off d'.D n secs note V (B + 601) ∨ Off d'.D n secs note (overV V C) (B + 601)
        rw [k3]; exact ho
    · simp only [if_neg hlt]
end Go.Proofs.YtplhamichcnmmaaGreatDoor
