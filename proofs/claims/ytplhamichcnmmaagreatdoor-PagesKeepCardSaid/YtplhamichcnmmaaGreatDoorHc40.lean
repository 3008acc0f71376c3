/- law 8: Same. -/
import Derived.Test.YtplhamichcnmmaaGreatDoorHc39
namespace Go.Proofs.YtplhamichcnmmaaGreatDoor
open Go.RowKit Go.Eng Go.Eng.Bm
set_option maxRecDepth 100000
set_option maxHeartbeats 40000000
theorem seq_bys (a b : Bys) : seq ⟨a.toArray⟩ ⟨b.toArray⟩ = decide (a = b) := by
  rw [Bool.eq_iff_iff, seq_iff, decide_eq_true_iff]
  constructor
  · intro h
    have := congrArg (fun x : ByteArray => x.data.toList) h
    simpa using this
  · intro h; rw [h]
theorem lw_w {log : Nat} {x : Lw} {w0 w : World} {F : Nat → Prop} {m : List Eng.Item} (h : Hp w0 F m w) (hm : lwC log x ∈ m) : w.rangeAt x.xb 2 [.slice (some ⟨x.pv, 0, none⟩) x.V.length x.cv, .map (some x.pm)] := by
  have h1 := rangeAt_pt (cs := (lwA log x.d.b x.s.b x.pv x.V.length x.cv x.pm).toList) (h.get hm)
  exact rangeAt_take (k := 2) (rangeAt_drop (k := 2) h1)
def same (V1 : List Bys) (C1 : PR) (x : Lw) (i : Nat) : Prop := ∀ j, j < i → viewF V1 C1 j = viewF x.V x.C j
structure SameP (x : Lw) (log : Nat) (V1 : List Bys) (C1 : PR) (B : Nat) (y : Bool × Pg) : Prop where
  tells : y.1 = true ↔ same V1 C1 x 128
  st : StX y.2 x.d.D 128 log noteB V1 C1 B
  C : y.2.C = x.s.C
  b : y.2.b = x.s.b
theorem same_calls (log : Nat) (x : Lw) (V1 : List Bys) (C1 : PR) (B : Nat) (hst : StX x.s x.d.D 128 log noteB V1 C1 B) (ar : Ar x) (hl : x.V.length = 128) (hch : x.C.length = x.s.C.length) (w : World) (hw : ∀ it ∈ lwL log x, Here it w) (ha : (lwL log x).Pairwise Eng.Item.Apart) :
    Ct Tryz.prog 10 #[.pointer (some ⟨x.xb, 0, none⟩)] w (foots (lwL log x)) (fun y : Bool × Pg => .bool y.1) (SameP x log V1 C1 B) (fun y => lwL log { x with s := y.2 }) := by
  obtain ⟨xb, s0, d, pv, cv, pm, V, C, A⟩ := x
  dsimp only at hst hl hch ⊢
  refine cu_of [_] _ Tryz.func10 rfl rfl hw ha ?_
  obtain ⟨S, hS1, hS2, hS3⟩ := hst.bm
  have hCl : C.length ≤ 1000000 := by have := hst.many; have := hst.le; omega
  simp only [argSlots]
  refine goA ?_
  refine t_for (α := Nat × Pg) (fun y => [(0, .pointer (some ⟨xb, 0, none⟩)), (3, .int .i64 (cnt S y.1 : Nat)), (4, .int .i64 y.1)]) (fun y => y.1 ≤ 128 ∧ same V1 C1 ⟨xb, s0, d, pv, cv, pm, V, C, A⟩ y.1 ∧ StX y.2 d.D 128 log noteB V1 C1 B ∧ y.2.C = s0.C ∧ y.2.b = s0.b)
    (fun y => lwL log ⟨xb, y.2, d, pv, cv, pm, V, C, A⟩) (fun y => 128 - y.1) (0, s0) ⟨rfl, rfl, rfl, trivial⟩ ⟨Nat.zero_le _, fun j hj => absurd hj (Nat.not_lt_zero _), hst, rfl, rfl⟩ (fun w' hw' => hw') fun ⟨i, s⟩ ⟨hi, hsm, hx, hsC, hsb⟩ => ?_
  dsimp only at hi hsm hx hsC hsb ⊢
  rename_i hjunk
  clear hjunk
  unfold lwL lwC
  dsimp only
  by_cases hi2 : i < 128
  · refine goA ?_
    refine l_pick [1, 2, 0, 3, 4, 5] rfl rfl ?_
    refine l_opg rfl (o_cu (pre := [pgI s d, dkI d]) rfl (by kernel_rfl) rfl (pd_stable s d) (fun w1 hw1 hh1 ha1 => pgpage_calls s d hx.siz.ok hx.rest.live (by rw [hx.rest.wait]; decide) hx.dead hx.ok i (by rw [hx.hn]; exact hi2) w1 hh1 ha1)) fun ⟨b5, _⟩ => ?_
    rw [hx.pageB hi2]
    have hx2 := hx.page hi2
    have hsC2 := pageS_C s d.D i
    have hsb2 := pageS_b s d.D i
    generalize pageS s d.D i = s2 at hx2 hsC2 hsb2 ⊢
    simp only [List.cons_append, List.nil_append]
    refine goA ?_
    refine l_w rfl (v_loadcE (xs := [.slice (some ⟨pv, 0, none⟩) V.length cv, .map (some pm)]) (c := #[.slice (some ⟨pv, 0, none⟩) V.length cv, .map (some pm)]) rfl rfl (fun w' hw' => lw_w (x := ⟨xb, s, d, pv, cv, pm, V, C, A⟩) hw' (.tail _ (.tail _ (.tail _ (.head _))))) rfl) ?_
    refine goA ?_
    refine l_opg rfl (o_pure rfl (by kernel_rfl) rfl (fun w1 hw1 => rpage_ok pv cv V pm C i (by omega) (by omega) w1 (rsI_rd (ar_here (Here.of (hw1.item (arI A) (by repeat first | exact .head _ | apply List.Mem.tail)) (ar_stable A)) ar.rows).1) (ar_here (Here.of (hw1.item (arI A) (by repeat first | exact .head _ | apply List.Mem.tail)) (ar_stable A)) ar.map))) fun _ => ?_
    refine goA ?_
    refine l_w rfl (v_bstr (bs := viewF V1 C1 i) rfl (hst.vlen hi2).symm rfl rfl (fun w' hw' => .inr ⟨b5, 0, rfl, (hw'.item (rdI b5 (viewF V1 C1 i)) (.head _)).1.1⟩)) ?_
    unfold strV
    refine goA ?_
    rw [seq_bys]
    have hup : ∀ b : Bool, b = decide (viewF V1 C1 i = viewF V C i) → (b = true → same V1 C1 ⟨xb, s0, d, pv, cv, pm, V, C, A⟩ (i + 1)) ∧ (b = false → ¬ same V1 C1 ⟨xb, s0, d, pv, cv, pm, V, C, A⟩ 128) := fun b hb => by
      subst hb
      refine ⟨fun h j hj => ?_, fun h hs => ?_⟩
      · rcases Nat.lt_succ_iff_lt_or_eq.1 hj with h1 | rfl
        · exact hsm j h1
        · exact of_decide_eq_true h
      · exact of_decide_eq_false h (hs i hi2)
    obtain ⟨hu1, hu2⟩ := hup _ rfl
    generalize decide (viewF V1 C1 i = viewF V C i) = eq at hu1 hu2 ⊢
    cases eq with
    | false =>
      refine goA ?_
      rw [← hsb2]
      refine x_pick [3, 1, 2, 4, 5, 6] rfl rfl ?_
      exact x_ct (false, s2) rfl rfl rfl ⟨⟨fun h => (nomatch h), fun h => absurd h (hu2 rfl)⟩, hx2, hsC2.trans hsC, hsb2.trans hsb⟩ (.refl _) (lw_stable log ⟨xb, s2, d, pv, cv, pm, V, C, A⟩)
    | true =>
      have hsm2 := hu1 rfl
      have hV0 : viewF V C 0 = bmB V.length S := by rw [← hsm2 0 (Nat.succ_pos _), hS1, hl]
      refine goA ?_
      refine l_w rfl (v_loadcE (xs := [.slice (some ⟨pv, 0, none⟩) V.length cv, .map (some pm)]) (c := #[.slice (some ⟨pv, 0, none⟩) V.length cv, .map (some pm)]) rfl rfl (fun w' hw' => lw_w (x := ⟨xb, s, d, pv, cv, pm, V, C, A⟩) hw' (.tail _ (.tail _ (.tail _ (.head _))))) rfl) ?_
      refine goA ?_
      refine l_opg rfl (o_pure rfl (by kernel_rfl) rfl (fun w1 hw1 => rhas_calls pv cv V pm C S hV0 i (by omega) (by omega) w1 (rsI_rd (ar_here (Here.of (hw1.item (arI A) (by repeat first | exact .head _ | apply List.Mem.tail)) (ar_stable A)) ar.rows).1) (ar_here (Here.of (hw1.item (arI A) (by repeat first | exact .head _ | apply List.Mem.tail)) (ar_stable A)) ar.map))) fun _ => ?_
      have hcn : cnt S (i + 1) = cnt S i + (S i).toNat := rfl
      have hcl := cnt_le S i
      rw [← hsb2]
      cases hSi : S i with
      | true =>
        rw [hSi] at hcn
        refine goA ?_
        rw [show cnt S i + 1 = cnt S (i + 1) from hcn.symm]
        refine x_pick [3, 1, 2, 4, 5, 6] rfl rfl ?_
        exact x_round (i + 1, s2) ⟨rfl, rfl, rfl, trivial⟩ ⟨hi2, hsm2, hx2, hsC2.trans hsC, hsb2.trans hsb⟩ (fun w' hw' => hw') (by simp only; omega)
      | false =>
        rw [hSi] at hcn
        refine goA ?_
        rw [show cnt S i = cnt S (i + 1) from hcn.symm]
        refine x_pick [3, 1, 2, 4, 5, 6] rfl rfl ?_
        exact x_round (i + 1, s2) ⟨rfl, rfl, rfl, trivial⟩ ⟨hi2, hsm2, hx2, hsC2.trans hsC, hsb2.trans hsb⟩ (fun w' hw' => hw') (by simp only; omega)
  · obtain rfl : i = 128 := by omega
    refine goA ?_
    refine l_opg rfl (o_pure rfl (by kernel_rfl) rfl (fun w1 hw1 => pgpage_bad s d (-1) (.inl (by decide)) w1 (Here.of (hw1.item (pgI s d) (by repeat first | exact .head _ | apply List.Mem.tail)) (pgI_stable s d)))) fun _ => ?_
    refine goA ?_
    refine t_drawp (by kernel_rfl) ?_
    (repeat first | (apply d_w [10] rfl rfl rfl (by kernel_rfl) (fun _ h => by first | exact h | exact Hp.sub h (.cons _ (.refl _)) | exact Hp.sub h (.cons _ (.cons _ (.refl _))) | exact Hp.sub h (.cons _ (.cons _ (.cons _ (.refl _)))) | exact Hp.sub h (.cons _ (.cons _ (.cons _ (.cons _ (.refl _))))) | exact Hp.sub h (.cons _ (.cons _ (.cons _ (.cons _ (.cons _ (.refl _)))))) | exact Hp.sub h (.cons _ (.cons _ (.cons _ (.cons _ (.cons _ (.cons _ (.refl _))))))) | exact Hp.sub h (.cons_cons _ (.cons_cons _ (List.nil_sublist _))) | exact Hp.sub h (.cons _ (.cons_cons _ (.cons_cons _ (List.nil_sublist _))))); focus (first | exact v_move rfl | exact v_assign rfl | exact v_bt rfl rfl | exact v_extract rfl rfl | exact v_field0 rfl rfl | exact v_field rfl rfl | exact v_lens rfl rfl | exact v_lenstr rfl rfl | exact v_nt rfl | exact v_load1p rfl rfl (by repeat first | exact .head _ | apply List.Mem.tail) | exact v_loadn rfl rfl (by repeat first | exact .head _ | apply List.Mem.tail) rfl | exact v_loadp rfl rfl (by repeat first | exact .head _ | apply List.Mem.tail) rfl | exact v_loada rfl rfl (by repeat first | exact .head _ | apply List.Mem.tail) | exact v_eqb rfl rfl rfl | exact v_slA rfl rfl rfl | exact v_builds rfl rfl rfl rfl rfl | exact v_eqs rfl rfl | exact v_nc rfl | exact v_caps rfl rfl | exact v_eqpn rfl rfl rfl | exact v_nepn rfl rfl rfl | exact v_neps rfl rfl rfl rfl | ((first | refine v_bn rfl rfl ?_ | refine v_is1 rfl rfl rfl ?_ | refine v_ia1 rfl rfl rfl ?_ | refine v_sa rfl rfl rfl ?_ | refine v_sF rfl rfl rfl ?_ | refine v_sT rfl rfl rfl ?_ | refine v_sFT rfl rfl rfl rfl ?_ | refine v_lF rfl rfl rfl rfl ?_ | refine v_is rfl rfl rfl ?_ | refine v_ia rfl rfl rfl ?_ | refine v_lT rfl rfl rfl rfl ?_ | refine v_cv rfl rfl rfl ?_ | refine v_slLH rfl rfl rfl rfl rfl ?_ | refine v_sl3 rfl rfl rfl rfl rfl ?_); first | omega | assumption) | exact v_pT rfl rfl (by first | omega | assumption | (simp; done) | exact fun h => h (by assumption) | fail) | exact v_pF rfl rfl (by first | omega | assumption | (simp; done) | exact fun h => h (by assumption) | fail) | exact v_pickB rfl rfl rfl)) | refine d_no [10] rfl rfl rfl (by kernel_rfl) (fun _ h => by first | exact h | exact Hp.sub h (.cons _ (.refl _)) | exact Hp.sub h (.cons _ (.cons _ (.refl _))) | exact Hp.sub h (.cons _ (.cons _ (.cons _ (.refl _)))) | exact Hp.sub h (.cons _ (.cons _ (.cons _ (.cons _ (.refl _))))) | exact Hp.sub h (.cons _ (.cons _ (.cons _ (.cons _ (.cons _ (.refl _)))))) | exact Hp.sub h (.cons _ (.cons _ (.cons _ (.cons _ (.cons _ (.cons _ (.refl _))))))) | exact Hp.sub h (.cons_cons _ (.cons_cons _ (List.nil_sublist _))) | exact Hp.sub h (.cons _ (.cons_cons _ (.cons_cons _ (List.nil_sublist _))))) ?_ | refine d_T [10] rfl rfl rfl rfl (by first | omega | assumption | (simp; done) | exact fun h => h (by assumption) | fail) ?_ | refine d_F [10] rfl rfl rfl rfl (by first | omega | assumption | (simp; done) | exact fun h => h (by assumption) | fail) ?_)
    refine d_opg 10 ⟨by kernel_rfl, by decide⟩ rfl rfl (o_pure rfl (by kernel_rfl) rfl (fun w1 hw1 => pgpage_bad s d V.length (.inr (by rw [hx.hn, hl]; decide)) w1 (Here.of (hw1.item (pgI s d) (by repeat first | exact .head _ | apply List.Mem.tail)) (pgI_stable s d)))) (fun _ _ h => h) fun _ => ?_
    refine goE ?_
    refine d_end (by kernel_rfl) ?_
    refine goA ?_
    refine t_pick [1, 2, 0, 3, 4, 5] rfl rfl ?_
    refine t_drawm [2, 3, 4, 5] 30 rfl rfl (by kernel_rfl) ?_
    (repeat first | (apply d_w [11] rfl rfl rfl (by kernel_rfl) (fun _ h => by first | exact h | exact Hp.sub h (.cons _ (.refl _)) | exact Hp.sub h (.cons _ (.cons _ (.refl _))) | exact Hp.sub h (.cons _ (.cons _ (.cons _ (.refl _)))) | exact Hp.sub h (.cons _ (.cons _ (.cons _ (.cons _ (.refl _))))) | exact Hp.sub h (.cons _ (.cons _ (.cons _ (.cons _ (.cons _ (.refl _)))))) | exact Hp.sub h (.cons _ (.cons _ (.cons _ (.cons _ (.cons _ (.cons _ (.refl _))))))) | exact Hp.sub h (.cons_cons _ (.cons_cons _ (List.nil_sublist _))) | exact Hp.sub h (.cons _ (.cons_cons _ (.cons_cons _ (List.nil_sublist _))))); focus (first | exact v_move rfl | exact v_assign rfl | exact v_bt rfl rfl | exact v_extract rfl rfl | exact v_field0 rfl rfl | exact v_field rfl rfl | exact v_lens rfl rfl | exact v_lenstr rfl rfl | exact v_nt rfl | exact v_load1p rfl rfl (by repeat first | exact .head _ | apply List.Mem.tail) | exact v_loadn rfl rfl (by repeat first | exact .head _ | apply List.Mem.tail) rfl | exact v_loadp rfl rfl (by repeat first | exact .head _ | apply List.Mem.tail) rfl | exact v_loada rfl rfl (by repeat first | exact .head _ | apply List.Mem.tail) | exact v_eqb rfl rfl rfl | exact v_slA rfl rfl rfl | exact v_builds rfl rfl rfl rfl rfl | exact v_eqs rfl rfl | exact v_nc rfl | exact v_caps rfl rfl | exact v_eqpn rfl rfl rfl | exact v_nepn rfl rfl rfl | exact v_neps rfl rfl rfl rfl | ((first | refine v_bn rfl rfl ?_ | refine v_is1 rfl rfl rfl ?_ | refine v_ia1 rfl rfl rfl ?_ | refine v_sa rfl rfl rfl ?_ | refine v_sF rfl rfl rfl ?_ | refine v_sT rfl rfl rfl ?_ | refine v_sFT rfl rfl rfl rfl ?_ | refine v_lF rfl rfl rfl rfl ?_ | refine v_is rfl rfl rfl ?_ | refine v_ia rfl rfl rfl ?_ | refine v_lT rfl rfl rfl rfl ?_ | refine v_cv rfl rfl rfl ?_ | refine v_slLH rfl rfl rfl rfl rfl ?_ | refine v_sl3 rfl rfl rfl rfl rfl ?_); first | omega | assumption) | exact v_pT rfl rfl (by first | omega | assumption | (simp; done) | exact fun h => h (by assumption) | fail) | exact v_pF rfl rfl (by first | omega | assumption | (simp; done) | exact fun h => h (by assumption) | fail) | exact v_pickB rfl rfl rfl)) | refine d_no [11] rfl rfl rfl (by kernel_rfl) (fun _ h => by first | exact h | exact Hp.sub h (.cons _ (.refl _)) | exact Hp.sub h (.cons _ (.cons _ (.refl _))) | exact Hp.sub h (.cons _ (.cons _ (.cons _ (.refl _)))) | exact Hp.sub h (.cons _ (.cons _ (.cons _ (.cons _ (.refl _))))) | exact Hp.sub h (.cons _ (.cons _ (.cons _ (.cons _ (.cons _ (.refl _)))))) | exact Hp.sub h (.cons _ (.cons _ (.cons _ (.cons _ (.cons _ (.cons _ (.refl _))))))) | exact Hp.sub h (.cons_cons _ (.cons_cons _ (List.nil_sublist _))) | exact Hp.sub h (.cons _ (.cons_cons _ (.cons_cons _ (List.nil_sublist _))))) ?_ | refine d_T [11] rfl rfl rfl rfl (by first | omega | assumption | (simp; done) | exact fun h => h (by assumption) | fail) ?_ | refine d_F [11] rfl rfl rfl rfl (by first | omega | assumption | (simp; done) | exact fun h => h (by assumption) | fail) ?_)
    refine d_opg 11 ⟨by kernel_rfl, by decide⟩ rfl rfl (o_cu (pre := [pgI s d, dkI d]) rfl (by kernel_rfl) rfl (pd_stable s d) (fun w1 hw1 hh1 ha1 => pgusedn_calls s d hx.siz.ok hx.rest.live (by rw [hx.rest.wait]; decide) hx.dead hx.ok (by rw [hx.hn]; decide) S (by rw [hx.hn, hx.pageB (by decide), hS1]) (by rw [hx.hn]; exact hS2) hS3 w1 hh1 ha1)) (fun _ _ h => goH h) fun ⟨_, _⟩ => ?_
    rw [show cnt S 1024 = cnt S 128 from cnt_canon hS2 896]
    have hx2 := hx.page (i := 0) (by decide)
    have hsC2 := pageS_C s d.D 0
    have hsb2 := pageS_b s d.D 0
    generalize pageS s d.D 0 = s2 at hx2 hsC2 hsb2 ⊢
    generalize cnt S 128 = u
    simp only [List.cons_append, List.nil_append]
    (repeat first | (apply d_w [20] rfl rfl rfl (by kernel_rfl) (fun _ h => by first | exact h | exact Hp.sub h (.cons _ (.refl _)) | exact Hp.sub h (.cons _ (.cons _ (.refl _))) | exact Hp.sub h (.cons _ (.cons _ (.cons _ (.refl _)))) | exact Hp.sub h (.cons _ (.cons _ (.cons _ (.cons _ (.refl _))))) | exact Hp.sub h (.cons _ (.cons _ (.cons _ (.cons _ (.cons _ (.refl _)))))) | exact Hp.sub h (.cons _ (.cons _ (.cons _ (.cons _ (.cons _ (.cons _ (.refl _))))))) | exact Hp.sub h (.cons_cons _ (.cons_cons _ (List.nil_sublist _))) | exact Hp.sub h (.cons _ (.cons_cons _ (.cons_cons _ (List.nil_sublist _))))); focus (first | exact v_move rfl | exact v_assign rfl | exact v_bt rfl rfl | exact v_extract rfl rfl | exact v_field0 rfl rfl | exact v_field rfl rfl | exact v_lens rfl rfl | exact v_lenstr rfl rfl | exact v_nt rfl | exact v_load1p rfl rfl (by repeat first | exact .head _ | apply List.Mem.tail) | exact v_loadn rfl rfl (by repeat first | exact .head _ | apply List.Mem.tail) rfl | exact v_loadp rfl rfl (by repeat first | exact .head _ | apply List.Mem.tail) rfl | exact v_loada rfl rfl (by repeat first | exact .head _ | apply List.Mem.tail) | exact v_eqb rfl rfl rfl | exact v_slA rfl rfl rfl | exact v_builds rfl rfl rfl rfl rfl | exact v_eqs rfl rfl | exact v_nc rfl | exact v_caps rfl rfl | exact v_eqpn rfl rfl rfl | exact v_nepn rfl rfl rfl | exact v_neps rfl rfl rfl rfl | ((first | refine v_bn rfl rfl ?_ | refine v_is1 rfl rfl rfl ?_ | refine v_ia1 rfl rfl rfl ?_ | refine v_sa rfl rfl rfl ?_ | refine v_sF rfl rfl rfl ?_ | refine v_sT rfl rfl rfl ?_ | refine v_sFT rfl rfl rfl rfl ?_ | refine v_lF rfl rfl rfl rfl ?_ | refine v_is rfl rfl rfl ?_ | refine v_ia rfl rfl rfl ?_ | refine v_lT rfl rfl rfl rfl ?_ | refine v_cv rfl rfl rfl ?_ | refine v_slLH rfl rfl rfl rfl rfl ?_ | refine v_sl3 rfl rfl rfl rfl rfl ?_); first | omega | assumption) | exact v_pT rfl rfl (by first | omega | assumption | (simp; done) | exact fun h => h (by assumption) | fail) | exact v_pF rfl rfl (by first | omega | assumption | (simp; done) | exact fun h => h (by assumption) | fail) | exact v_pickB rfl rfl rfl)) | refine d_no [20] rfl rfl rfl (by kernel_rfl) (fun _ h => by first | exact h | exact Hp.sub h (.cons _ (.refl _)) | exact Hp.sub h (.cons _ (.cons _ (.refl _))) | exact Hp.sub h (.cons _ (.cons _ (.cons _ (.refl _)))) | exact Hp.sub h (.cons _ (.cons _ (.cons _ (.cons _ (.refl _))))) | exact Hp.sub h (.cons _ (.cons _ (.cons _ (.cons _ (.cons _ (.refl _)))))) | exact Hp.sub h (.cons _ (.cons _ (.cons _ (.cons _ (.cons _ (.cons _ (.refl _))))))) | exact Hp.sub h (.cons_cons _ (.cons_cons _ (List.nil_sublist _))) | exact Hp.sub h (.cons _ (.cons_cons _ (.cons_cons _ (List.nil_sublist _))))) ?_ | refine d_T [20] rfl rfl rfl rfl (by first | omega | assumption | (simp; done) | exact fun h => h (by assumption) | fail) ?_ | refine d_F [20] rfl rfl rfl rfl (by first | omega | assumption | (simp; done) | exact fun h => h (by assumption) | fail) ?_)
    rw [← hsb2]
    refine d_opg 20 ⟨by kernel_rfl, by decide⟩ rfl rfl (o_pure rfl (by kernel_rfl) rfl (fun w1 hw1 => changed_calls s2 d w1 (Here.of (hw1.item (pgI s2 d) (by repeat first | exact .head _ | apply List.Mem.tail)) (pgI_stable s2 d)))) (fun _ _ h => goH h) fun _ => ?_
    (apply d_w [] rfl rfl rfl (by kernel_rfl) (fun _ h => by first | exact h | exact Hp.sub h (.cons _ (.refl _)) | exact Hp.sub h (.cons _ (.cons _ (.refl _))) | exact Hp.sub h (.cons _ (.cons _ (.cons _ (.refl _)))) | exact Hp.sub h (.cons _ (.cons _ (.cons _ (.cons _ (.refl _))))) | exact Hp.sub h (.cons _ (.cons _ (.cons _ (.cons _ (.cons _ (.refl _)))))) | exact Hp.sub h (.cons _ (.cons _ (.cons _ (.cons _ (.cons _ (.cons _ (.refl _))))))) | exact Hp.sub h (.cons_cons _ (.cons_cons _ (List.nil_sublist _))) | exact Hp.sub h (.cons _ (.cons_cons _ (.cons_cons _ (List.nil_sublist _))))); focus (exact (v_lenmapP (q := .i64) (A := toG strV C) rfl rfl (fun w' hw' => (ar_here (Here.of (hw'.item (arI A) (by repeat first | exact .head _ | apply List.Mem.tail)) (ar_stable A)) ar.map).1))))
    rw [show (toG strV C).length = s2.C.length by rw [toG, List.length_map, hsC2, hsC, hch]]
    generalize hlen2 : s2.C.length = u2
    refine goE ?_
    refine d_end (by kernel_rfl) ?_
    refine goA ?_
    refine x_pick [2, 0, 1, 3, 4, 5] rfl rfl ?_
    exact x_ct (true, s2) rfl rfl (congrArg Value.bool (beq_self_eq_true (u2 : Int))) ⟨⟨fun _ => hsm, fun _ => rfl⟩, hx2, hsC2.trans hsC, hsb2.trans hsb⟩ (.refl _) (lw_stable log ⟨xb, s2, d, pv, cv, pm, V, C, A⟩)
end Go.Proofs.YtplhamichcnmmaaGreatDoor
