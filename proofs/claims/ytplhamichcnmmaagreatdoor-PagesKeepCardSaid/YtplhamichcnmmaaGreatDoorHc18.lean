/- package wal: Open. -/
/- package wal: does (whatever the function value is). -/
/- package wal: Trim. -/
import Derived.Test.YtplhamichcnmmaaGreatDoorHc17
namespace Go.Proofs.YtplhamichcnmmaaGreatDoor
open Go.RowKit Go.Eng
set_option maxRecDepth 100000
set_option maxHeartbeats 40000000
def openT (D : Dsk) (h : Hd) : List Bys := textsF (readSN D h.secs h.secs) ((readSN D h.secs h.secs).length + 1) h.first [] []
def openG (D : Dsk) (h : Hd) (c : Nat) : Lg := ⟨h, c, nextF (readN D h.secs h.secs) h.first, h.secs, false⟩
theorem wopen_calls (d : Dk) (ok : d.D.Ok) (hlive : d.D.dead = false) (hwl : d.D.wait.length ≤ 1000000) (h2 : 2 ≤ d.D.on.length) (h : Hd) (c : Nat) (hlk : lookN d.D 2 = (h, (c : Int))) (hf : h.first < 18446744073709551616) (hs1 : 1 ≤ h.secs) (hs2 : 2 + h.secs ≤ d.D.on.length)
    (hne : ∀ p ∈ readSN d.D h.secs h.secs, p.2.text.length ≤ 497 ∧ p.2.text ≠ []) (w : World) (hw : ∀ it ∈ [dkI d, ctI], Here it w) (ha : [dkI d, ctI].Pairwise Eng.Item.Apart) :
    Ct Tryz.prog 41 #[.pointer (some ⟨d.b, 0, none⟩)] w (foots [dkI d, ctI]) (fun y : Nat × Option (Nat × Nat) => .tuple #[.pointer (some ⟨y.1, 0, none⟩), slV y.2 (openT d.D h).length, .int .i64 0]) (fun _ => True) (fun y => [lgI y.1 d (openG d.D h c), own 9 1 y.2 (openT d.D h).length (strsV (openT d.D h)), dkI d, ctI]) := by
  refine cu_of [_] _ Tryz.func41 rfl rfl hw ha ?_
  have hmany := ok.many
  simp only [argSlots]
  refine goA ?_
  refine l_opg rfl (o_cu (pre := [dkI d, ctI]) rfl (by kernel_rfl) rfl (dc_stable d) (fun w1 hw1 hh1 ha1 => counts_calls d ok hlive (by omega) h2 w1 hh1 ha1)) fun ⟨_, _⟩ => ?_
  rw [hlk]
  refine goA ?_
  refine l_alloca rfl rfl fun b5 hb5 => ?_
  refine l_op rfl (o_storea (cs' := hdA h) rfl rfl rfl rfl rfl rfl) fun _ => ?_
  refine goA ?_
  refine t_drawm [0, 1, 2] 16 rfl rfl (by kernel_rfl) ?_
  refine goE ?_
  refine d_opg 12 ⟨by kernel_rfl, by decide⟩ rfl rfl (o_pure rfl (by kernel_rfl) rfl (fun w1 hw1 => dlen_calls d w1 (Here.of (hw1.item (dkI d) (.tail _ (.head _))) (bundle_stable _)))) (fun _ _ h => goH h) fun _ => ?_
  refine goE ?_
  refine d_end (by kernel_rfl) ?_
  refine goA ?_
  refine l_ctg rfl rfl (by kernel_rfl) rfl (fun w1 hw1 => wread_calls d ok hlive (by omega) h.secs (by omega) hs2 w1 (Here.of (hw1.item (dkI d) (.tail _ (.head _))) (bundle_stable _)) (hw1.item ctI (.tail _ (.tail _ (.head _)))).1) fun x hx => ?_
  have hrk := readN_keys d.D h.secs h.secs
  have htn := toN_read d.D h.secs h.secs
  have hln := readSN_len d.D h.secs h.secs
  have hG : openG d.D h c = ⟨h, c, nextF (readN d.D h.secs h.secs) h.first, h.secs, false⟩ := rfl
  have hT : openT d.D h = textsF (readSN d.D h.secs h.secs) ((readSN d.D h.secs h.secs).length + 1) h.first [] [] := rfl
  rw [hG, hT]
  generalize readSN d.D h.secs h.secs = B at hne htn hln ⊢
  rw [← htn] at hrk ⊢
  refine goA ?_
  refine t_pick [0, 2, 3, 1] rfl rfl ?_
  refine t_drawm [3] 18 rfl rfl (by kernel_rfl) ?_
  (repeat first | (apply d_w [6] rfl rfl rfl (by kernel_rfl) (fun _ h => by first | exact h | exact Hp.sub h (.cons _ (.refl _)) | exact Hp.sub h (.cons _ (.cons _ (.refl _))) | exact Hp.sub h (.cons _ (.cons _ (.cons _ (.refl _)))) | exact Hp.sub h (.cons _ (.cons _ (.cons _ (.cons _ (.refl _))))) | exact Hp.sub h (.cons _ (.cons _ (.cons _ (.cons _ (.cons _ (.refl _)))))) | exact Hp.sub h (.cons _ (.cons _ (.cons _ (.cons _ (.cons _ (.cons _ (.refl _))))))) | exact Hp.sub h (.cons_cons _ (.cons_cons _ (List.nil_sublist _))) | exact Hp.sub h (.cons _ (.cons_cons _ (.cons_cons _ (List.nil_sublist _))))); focus (first | exact v_move rfl | exact v_assign rfl | exact v_bt rfl rfl | exact v_extract rfl rfl | exact v_field0 rfl rfl | exact v_field rfl rfl | exact v_lens rfl rfl | exact v_lenstr rfl rfl | exact v_nt rfl | exact v_load1p rfl rfl (by repeat first | exact .head _ | apply List.Mem.tail) | exact v_loadn rfl rfl (by repeat first | exact .head _ | apply List.Mem.tail) rfl | exact v_loadp rfl rfl (by repeat first | exact .head _ | apply List.Mem.tail) rfl | exact v_loada rfl rfl (by repeat first | exact .head _ | apply List.Mem.tail) | exact v_eqb rfl rfl rfl | exact v_slA rfl rfl rfl | exact v_builds rfl rfl rfl rfl rfl | exact v_eqs rfl rfl | exact v_nc rfl | exact v_caps rfl rfl | exact v_eqpn rfl rfl rfl | exact v_nepn rfl rfl rfl | exact v_neps rfl rfl rfl rfl | ((first | refine v_bn rfl rfl ?_ | refine v_is1 rfl rfl rfl ?_ | refine v_ia1 rfl rfl rfl ?_ | refine v_sa rfl rfl rfl ?_ | refine v_sF rfl rfl rfl ?_ | refine v_sT rfl rfl rfl ?_ | refine v_sFT rfl rfl rfl rfl ?_ | refine v_lF rfl rfl rfl rfl ?_ | refine v_is rfl rfl rfl ?_ | refine v_ia rfl rfl rfl ?_ | refine v_lT rfl rfl rfl rfl ?_ | refine v_cv rfl rfl rfl ?_ | refine v_slLH rfl rfl rfl rfl rfl ?_ | refine v_sl3 rfl rfl rfl rfl rfl ?_); first | omega | assumption) | exact v_pT rfl rfl (by first | omega | assumption | (simp; done) | exact fun h => h (by assumption) | fail) | exact v_pF rfl rfl (by first | omega | assumption | (simp; done) | exact fun h => h (by assumption) | fail) | exact v_pickB rfl rfl rfl)) | refine d_no [6] rfl rfl rfl (by kernel_rfl) (fun _ h => by first | exact h | exact Hp.sub h (.cons _ (.refl _)) | exact Hp.sub h (.cons _ (.cons _ (.refl _))) | exact Hp.sub h (.cons _ (.cons _ (.cons _ (.refl _)))) | exact Hp.sub h (.cons _ (.cons _ (.cons _ (.cons _ (.refl _))))) | exact Hp.sub h (.cons _ (.cons _ (.cons _ (.cons _ (.cons _ (.refl _)))))) | exact Hp.sub h (.cons _ (.cons _ (.cons _ (.cons _ (.cons _ (.cons _ (.refl _))))))) | exact Hp.sub h (.cons_cons _ (.cons_cons _ (List.nil_sublist _))) | exact Hp.sub h (.cons _ (.cons_cons _ (.cons_cons _ (List.nil_sublist _))))) ?_ | refine d_T [6] rfl rfl rfl rfl (by first | omega | assumption | (simp; done) | exact fun h => h (by assumption) | fail) ?_ | refine d_F [6] rfl rfl rfl rfl (by first | omega | assumption | (simp; done) | exact fun h => h (by assumption) | fail) ?_)
  refine d_opg 6 ⟨by kernel_rfl, by decide⟩ rfl rfl (o_cu (pre := [mapN .u64 x (toN B)]) rfl (by kernel_rfl) rfl (by intro it hm; rcases hm with _ | ⟨_, hm⟩ <;> first | exact mapN_stable _ _ _ _ | exact (nomatch hm)) (fun w1 hw1 hh1 ha1 => next_calls x (toN B) hrk h.first hf w1 hh1)) (fun _ _ h => goH h) fun ⟨_, _⟩ => ?_
  (repeat first | (apply d_w [10, 14] rfl rfl rfl (by kernel_rfl) (fun _ h => by first | exact h | exact Hp.sub h (.cons _ (.refl _)) | exact Hp.sub h (.cons _ (.cons _ (.refl _))) | exact Hp.sub h (.cons _ (.cons _ (.cons _ (.refl _)))) | exact Hp.sub h (.cons _ (.cons _ (.cons _ (.cons _ (.refl _))))) | exact Hp.sub h (.cons _ (.cons _ (.cons _ (.cons _ (.cons _ (.refl _)))))) | exact Hp.sub h (.cons _ (.cons _ (.cons _ (.cons _ (.cons _ (.cons _ (.refl _))))))) | exact Hp.sub h (.cons_cons _ (.cons_cons _ (List.nil_sublist _))) | exact Hp.sub h (.cons _ (.cons_cons _ (.cons_cons _ (List.nil_sublist _))))); focus (first | exact v_move rfl | exact v_assign rfl | exact v_bt rfl rfl | exact v_extract rfl rfl | exact v_field0 rfl rfl | exact v_field rfl rfl | exact v_lens rfl rfl | exact v_lenstr rfl rfl | exact v_nt rfl | exact v_load1p rfl rfl (by repeat first | exact .head _ | apply List.Mem.tail) | exact v_loadn rfl rfl (by repeat first | exact .head _ | apply List.Mem.tail) rfl | exact v_loadp rfl rfl (by repeat first | exact .head _ | apply List.Mem.tail) rfl | exact v_loada rfl rfl (by repeat first | exact .head _ | apply List.Mem.tail) | exact v_eqb rfl rfl rfl | exact v_slA rfl rfl rfl | exact v_builds rfl rfl rfl rfl rfl | exact v_eqs rfl rfl | exact v_nc rfl | exact v_caps rfl rfl | exact v_eqpn rfl rfl rfl | exact v_nepn rfl rfl rfl | exact v_neps rfl rfl rfl rfl | ((first | refine v_bn rfl rfl ?_ | refine v_is1 rfl rfl rfl ?_ | refine v_ia1 rfl rfl rfl ?_ | refine v_sa rfl rfl rfl ?_ | refine v_sF rfl rfl rfl ?_ | refine v_sT rfl rfl rfl ?_ | refine v_sFT rfl rfl rfl rfl ?_ | refine v_lF rfl rfl rfl rfl ?_ | refine v_is rfl rfl rfl ?_ | refine v_ia rfl rfl rfl ?_ | refine v_lT rfl rfl rfl rfl ?_ | refine v_cv rfl rfl rfl ?_ | refine v_slLH rfl rfl rfl rfl rfl ?_ | refine v_sl3 rfl rfl rfl rfl rfl ?_); first | omega | assumption) | exact v_pT rfl rfl (by first | omega | assumption | (simp; done) | exact fun h => h (by assumption) | fail) | exact v_pF rfl rfl (by first | omega | assumption | (simp; done) | exact fun h => h (by assumption) | fail) | exact v_pickB rfl rfl rfl)) | refine d_no [10, 14] rfl rfl rfl (by kernel_rfl) (fun _ h => by first | exact h | exact Hp.sub h (.cons _ (.refl _)) | exact Hp.sub h (.cons _ (.cons _ (.refl _))) | exact Hp.sub h (.cons _ (.cons _ (.cons _ (.refl _)))) | exact Hp.sub h (.cons _ (.cons _ (.cons _ (.cons _ (.refl _))))) | exact Hp.sub h (.cons _ (.cons _ (.cons _ (.cons _ (.cons _ (.refl _)))))) | exact Hp.sub h (.cons _ (.cons _ (.cons _ (.cons _ (.cons _ (.cons _ (.refl _))))))) | exact Hp.sub h (.cons_cons _ (.cons_cons _ (List.nil_sublist _))) | exact Hp.sub h (.cons _ (.cons_cons _ (.cons_cons _ (List.nil_sublist _))))) ?_ | refine d_T [10, 14] rfl rfl rfl rfl (by first | omega | assumption | (simp; done) | exact fun h => h (by assumption) | fail) ?_ | refine d_F [10, 14] rfl rfl rfl rfl (by first | omega | assumption | (simp; done) | exact fun h => h (by assumption) | fail) ?_)
  generalize nextF (toN B) h.first = f
  refine d_say 56 _ (.agg (lgA d ⟨h, c, f, h.secs, false⟩)) rfl rfl ?_
  refine d_two 10 14 ⟨by kernel_rfl, by decide, by decide⟩ rfl rfl rfl rfl (o_box (v := .agg (lgA d ⟨h, c, f, h.secs, false⟩)) rfl rfl) (o_cu (pre := [mapN .u64 x (toN B)]) rfl (by kernel_rfl) rfl (by intro it hm; rcases hm with _ | ⟨_, hm⟩ <;> first | exact mapN_stable _ _ _ _ | exact (nomatch hm)) (fun w1 hw1 hh1 ha1 => texts_calls x B hne (by omega) h.first hf w1 hh1)) (fun _ _ h => goH h) (fun _ _ h => goH h) (fun ⟨b57, hb57⟩ => ?_) (fun ⟨o, ho⟩ => ?_)
  · (repeat first | (apply d_w [14] rfl rfl rfl (by kernel_rfl) (fun _ h => by first | exact h | exact Hp.sub h (.cons _ (.refl _)) | exact Hp.sub h (.cons _ (.cons _ (.refl _))) | exact Hp.sub h (.cons _ (.cons _ (.cons _ (.refl _)))) | exact Hp.sub h (.cons _ (.cons _ (.cons _ (.cons _ (.refl _))))) | exact Hp.sub h (.cons _ (.cons _ (.cons _ (.cons _ (.cons _ (.refl _)))))) | exact Hp.sub h (.cons _ (.cons _ (.cons _ (.cons _ (.cons _ (.cons _ (.refl _))))))) | exact Hp.sub h (.cons_cons _ (.cons_cons _ (List.nil_sublist _))) | exact Hp.sub h (.cons _ (.cons_cons _ (.cons_cons _ (List.nil_sublist _))))); focus (first | exact v_move rfl | exact v_assign rfl | exact v_bt rfl rfl | exact v_extract rfl rfl | exact v_field0 rfl rfl | exact v_field rfl rfl | exact v_lens rfl rfl | exact v_lenstr rfl rfl | exact v_nt rfl | exact v_load1p rfl rfl (by repeat first | exact .head _ | apply List.Mem.tail) | exact v_loadn rfl rfl (by repeat first | exact .head _ | apply List.Mem.tail) rfl | exact v_loadp rfl rfl (by repeat first | exact .head _ | apply List.Mem.tail) rfl | exact v_loada rfl rfl (by repeat first | exact .head _ | apply List.Mem.tail) | exact v_eqb rfl rfl rfl | exact v_slA rfl rfl rfl | exact v_builds rfl rfl rfl rfl rfl | exact v_eqs rfl rfl | exact v_nc rfl | exact v_caps rfl rfl | exact v_eqpn rfl rfl rfl | exact v_nepn rfl rfl rfl | exact v_neps rfl rfl rfl rfl | ((first | refine v_bn rfl rfl ?_ | refine v_is1 rfl rfl rfl ?_ | refine v_ia1 rfl rfl rfl ?_ | refine v_sa rfl rfl rfl ?_ | refine v_sF rfl rfl rfl ?_ | refine v_sT rfl rfl rfl ?_ | refine v_sFT rfl rfl rfl rfl ?_ | refine v_lF rfl rfl rfl rfl ?_ | refine v_is rfl rfl rfl ?_ | refine v_ia rfl rfl rfl ?_ | refine v_lT rfl rfl rfl rfl ?_ | refine v_cv rfl rfl rfl ?_ | refine v_slLH rfl rfl rfl rfl rfl ?_ | refine v_sl3 rfl rfl rfl rfl rfl ?_); first | omega | assumption) | exact v_pT rfl rfl (by first | omega | assumption | (simp; done) | exact fun h => h (by assumption) | fail) | exact v_pF rfl rfl (by first | omega | assumption | (simp; done) | exact fun h => h (by assumption) | fail) | exact v_pickB rfl rfl rfl)) | refine d_no [14] rfl rfl rfl (by kernel_rfl) (fun _ h => by first | exact h | exact Hp.sub h (.cons _ (.refl _)) | exact Hp.sub h (.cons _ (.cons _ (.refl _))) | exact Hp.sub h (.cons _ (.cons _ (.cons _ (.refl _)))) | exact Hp.sub h (.cons _ (.cons _ (.cons _ (.cons _ (.refl _))))) | exact Hp.sub h (.cons _ (.cons _ (.cons _ (.cons _ (.cons _ (.refl _)))))) | exact Hp.sub h (.cons _ (.cons _ (.cons _ (.cons _ (.cons _ (.cons _ (.refl _))))))) | exact Hp.sub h (.cons_cons _ (.cons_cons _ (List.nil_sublist _))) | exact Hp.sub h (.cons _ (.cons_cons _ (.cons_cons _ (List.nil_sublist _))))) ?_ | refine d_T [14] rfl rfl rfl rfl (by first | omega | assumption | (simp; done) | exact fun h => h (by assumption) | fail) ?_ | refine d_F [14] rfl rfl rfl rfl (by first | omega | assumption | (simp; done) | exact fun h => h (by assumption) | fail) ?_)
    refine d_opg 14 ⟨by kernel_rfl, by decide⟩ rfl rfl (ho_perm (bring1 _ _ _) (o_cu (pre := [mapN .u64 x (toN B)]) rfl (by kernel_rfl) rfl (by intro it hm; rcases hm with _ | ⟨_, hm⟩ <;> first | exact mapN_stable _ _ _ _ | exact (nomatch hm)) (fun w1 hw1 hh1 ha1 => texts_calls x B hne (by omega) h.first hf w1 hh1))) (fun _ _ h => goH h) fun ⟨o, ho⟩ => ?_
    refine goE ?_
    refine d_end (by kernel_rfl) ?_
    refine goA ?_
    refine x_imp (m' := [lgI b57 d ⟨h, c, f, h.secs, false⟩, own 9 1 o (textsF B (B.length + 1) h.first [] []).length (strsV (textsF B (B.length + 1) h.first [] [])), dkI d, ctI]) (fun w' hw' => hw'.pick [2, 0, 3, 4] rfl rfl) (x_ct3 (b57, o) rfl rfl rfl rfl rfl trivial (.refl _) ?_)
    intro it hm
    rcases hm with _ | ⟨_, _ | ⟨_, hm⟩⟩
    · exact pt_stable _ _ _
    · exact own_stable _ _ _ _ _ _
    · exact dc_stable d it hm
  · (repeat first | (apply d_w [10] rfl rfl rfl (by kernel_rfl) (fun _ h => by first | exact h | exact Hp.sub h (.cons _ (.refl _)) | exact Hp.sub h (.cons _ (.cons _ (.refl _))) | exact Hp.sub h (.cons _ (.cons _ (.cons _ (.refl _)))) | exact Hp.sub h (.cons _ (.cons _ (.cons _ (.cons _ (.refl _))))) | exact Hp.sub h (.cons _ (.cons _ (.cons _ (.cons _ (.cons _ (.refl _)))))) | exact Hp.sub h (.cons _ (.cons _ (.cons _ (.cons _ (.cons _ (.cons _ (.refl _))))))) | exact Hp.sub h (.cons_cons _ (.cons_cons _ (List.nil_sublist _))) | exact Hp.sub h (.cons _ (.cons_cons _ (.cons_cons _ (List.nil_sublist _))))); focus (first | exact v_move rfl | exact v_assign rfl | exact v_bt rfl rfl | exact v_extract rfl rfl | exact v_field0 rfl rfl | exact v_field rfl rfl | exact v_lens rfl rfl | exact v_lenstr rfl rfl | exact v_nt rfl | exact v_load1p rfl rfl (by repeat first | exact .head _ | apply List.Mem.tail) | exact v_loadn rfl rfl (by repeat first | exact .head _ | apply List.Mem.tail) rfl | exact v_loadp rfl rfl (by repeat first | exact .head _ | apply List.Mem.tail) rfl | exact v_loada rfl rfl (by repeat first | exact .head _ | apply List.Mem.tail) | exact v_eqb rfl rfl rfl | exact v_slA rfl rfl rfl | exact v_builds rfl rfl rfl rfl rfl | exact v_eqs rfl rfl | exact v_nc rfl | exact v_caps rfl rfl | exact v_eqpn rfl rfl rfl | exact v_nepn rfl rfl rfl | exact v_neps rfl rfl rfl rfl | ((first | refine v_bn rfl rfl ?_ | refine v_is1 rfl rfl rfl ?_ | refine v_ia1 rfl rfl rfl ?_ | refine v_sa rfl rfl rfl ?_ | refine v_sF rfl rfl rfl ?_ | refine v_sT rfl rfl rfl ?_ | refine v_sFT rfl rfl rfl rfl ?_ | refine v_lF rfl rfl rfl rfl ?_ | refine v_is rfl rfl rfl ?_ | refine v_ia rfl rfl rfl ?_ | refine v_lT rfl rfl rfl rfl ?_ | refine v_cv rfl rfl rfl ?_ | refine v_slLH rfl rfl rfl rfl rfl ?_ | refine v_sl3 rfl rfl rfl rfl rfl ?_); first | omega | assumption) | exact v_pT rfl rfl (by first | omega | assumption | (simp; done) | exact fun h => h (by assumption) | fail) | exact v_pF rfl rfl (by first | omega | assumption | (simp; done) | exact fun h => h (by assumption) | fail) | exact v_pickB rfl rfl rfl)) | refine d_no [10] rfl rfl rfl (by kernel_rfl) (fun _ h => by first | exact h | exact Hp.sub h (.cons _ (.refl _)) | exact Hp.sub h (.cons _ (.cons _ (.refl _))) | exact Hp.sub h (.cons _ (.cons _ (.cons _ (.refl _)))) | exact Hp.sub h (.cons _ (.cons _ (.cons _ (.cons _ (.refl _))))) | exact Hp.sub h (.cons _ (.cons _ (.cons _ (.cons _ (.cons _ (.refl _)))))) | exact Hp.sub h (.cons _ (.cons _ (.cons _ (.cons _ (.cons _ (.cons _ (.refl _))))))) | exact Hp.sub h (.cons_cons _ (.cons_cons _ (List.nil_sublist _))) | exact Hp.sub h (.cons _ (.cons_cons _ (.cons_cons _ (List.nil_sublist _))))) ?_ | refine d_T [10] rfl rfl rfl rfl (by first | omega | assumption | (simp; done) | exact fun h => h (by assumption) | fail) ?_ | refine d_F [10] rfl rfl rfl rfl (by first | omega | assumption | (simp; done) | exact fun h => h (by assumption) | fail) ?_)
    refine d_opg 10 ⟨by kernel_rfl, by decide⟩ rfl rfl (o_box (v := .agg (lgA d ⟨h, c, f, h.secs, false⟩)) rfl rfl) (fun _ _ h => goH h) fun ⟨b57, hb57⟩ => ?_
    refine goE ?_
    refine d_end (by kernel_rfl) ?_
    refine goA ?_
    refine x_imp (m' := [lgI b57 d ⟨h, c, f, h.secs, false⟩, own 9 1 o (textsF B (B.length + 1) h.first [] []).length (strsV (textsF B (B.length + 1) h.first [] [])), dkI d, ctI]) (fun w' hw' => hw'.pick [0, 1, 3, 4] rfl rfl) (x_ct3 (b57, o) rfl rfl rfl rfl rfl trivial (.refl _) ?_)
    intro it hm
    rcases hm with _ | ⟨_, _ | ⟨_, hm⟩⟩
    · exact pt_stable _ _ _
    · exact own_stable _ _ _ _ _ _
    · exact dc_stable d it hm
end Go.Proofs.YtplhamichcnmmaaGreatDoor

namespace Go.Proofs.YtplhamichcnmmaaGreatDoor
open Go.RowKit Go.Eng
set_option maxRecDepth 100000
set_option maxHeartbeats 40000000
theorem does_calls {α : Type} {f : FuncId} {cs : List Value} (hb : hasBody Tryz.prog f = true) (b : Nat) (d : Dk) (g : Lg) (hg : g.dead = false) (rest : List Eng.Item) (e : α → Nat) (φ : α → Prop) (d' : α → Dk) (g' : α → Lg) (its : α → List Eng.Item)
    (hrs : ∀ it ∈ rest, it.Stable none') (his : ∀ x, ∀ it ∈ its x, it.Stable none')
    (hc : ∀ w1, (∀ it ∈ lgI b d g :: rest, Here it w1) → (lgI b d g :: rest).Pairwise Eng.Item.Apart → Ct Tryz.prog f cs.toArray w1 (foots (lgI b d g :: rest)) (fun x => .int .i64 (e x : Nat)) φ (fun x => lgI b (d' x) (g' x) :: its x))
    (w : World) (hw : ∀ it ∈ lgI b d g :: rest, Here it w) (ha : (lgI b d g :: rest).Pairwise Eng.Item.Apart) :
    Ct Tryz.prog 101 #[.pointer (some ⟨b, 0, none⟩), .func (.func f) #[] cs.toArray] w (foots (lgI b d g :: rest)) (fun x => .int .i64 (e x : Nat)) φ (fun x => lgI b (d' x) { g' x with dead := decide (e x = 4) } :: its x) := by
  refine cu_of [_, _] _ Tryz.func101 rfl rfl hw ha ?_
  have hst : ∀ it ∈ lgI b d g :: rest, it.Stable none' := by
    intro it hm
    rcases hm with _ | ⟨_, hm⟩
    · exact pt_stable _ _ _
    · exact hrs it hm
  simp only [argSlots, Nat.reduceAdd]
  refine goA ?_
  rw [hg]
  refine goA ?_
  refine l_imp (m' := (lgI b d g :: rest) ++ []) (fun w' hw' => by rw [List.append_nil]; exact hw') ?_
  refine l_opg rfl (o_cuF (pre := lgI b d g :: rest) (fs := []) (cs := cs) (vs := []) rfl hb rfl rfl rfl hst (fun w1 hw1 hh1 ha1 => hc w1 hh1 ha1)) fun ⟨x, hx⟩ => ?_
  dsimp only
  refine goA ?_
  have e14 : (((e x : Nat) : Int) == 4) = decide (e x = 4) := by
    by_cases h : e x = 4
    · rw [h, decide_eq_true rfl]; rfl
    · rw [decide_eq_false h]; exact beq_eq_false_iff_ne.2 (fun hh => h (by omega))
  rw [e14]
  refine l_imp (m' := lgI b (d' x) (g' x) :: its x) (fun w' hw' => by rw [List.append_nil] at hw'; exact hw') ?_
  refine l_op rfl (o_store1 rfl rfl rfl rfl rfl rfl (show (8 : Nat) < 9 from by decide)) fun _ => ?_
  refine goA ?_
  exact x_ct x rfl rfl rfl hx (.refl _) (by
    intro it hm
    rcases hm with _ | ⟨_, hm⟩
    · exact pt_stable _ _ _
    · exact his x it hm)
end Go.Proofs.YtplhamichcnmmaaGreatDoor

namespace Go.Proofs.YtplhamichcnmmaaGreatDoor
open Go.RowKit Go.Eng
set_option maxRecDepth 100000
set_option maxHeartbeats 40000000
abbrev boxI (bl b : Nat) : Eng.Item := pt bl (.cells #[.pointer (some ⟨b, 0, none⟩)] 74 (0, 0))
def trimH (g : Lg) : Hd := ⟨(g.h.gen + 1) % 18446744073709551616, g.next, g.h.secs, g.h.note⟩
def trimG (g : Lg) (D : Dsk) : Lg := if (writeHF D (otherF g.at_) (trimH g)).1 = 0 then { g with h := trimH g, at_ := otherF g.at_, used := 0 } else g
theorem trim1_calls (bl b : Nat) (d : Dk) (g : Lg) (ok : d.D.Ok) (hkl : d.D.keep.length ≤ 1000000) (hwl : d.D.wait.length ≤ 1000000) (hg : g.h.Ok) (hnx : g.next < 18446744073709551616) (hat : g.at_ = 0 ∨ g.at_ = 1) (w : World)
    (hw : ∀ it ∈ [lgI b d g, boxI bl b, dkI d, ctI], Here it w) (ha : [lgI b d g, boxI bl b, dkI d, ctI].Pairwise Eng.Item.Apart) :
    Ct Tryz.prog 102 #[.pointer (some ⟨bl, 0, none⟩)] w (foots [lgI b d g, boxI bl b, dkI d, ctI]) (fun _ : Dk => .int .i64 ((writeHF d.D (otherF g.at_) (trimH g)).1 : Nat)) (dkOf d (writeHF d.D (otherF g.at_) (trimH g)).2) (fun d' => [lgI b d' (trimG g d.D), boxI bl b, dkI d', ctI]) := by
  refine cu_of [_] _ Tryz.func102 rfl rfl hw ha ?_
  obtain ⟨⟨gen, first, secs, note⟩, at_, next, used, dead⟩ := g
  obtain ⟨hgen, hfirst, hsecs, hnote⟩ := hg
  simp only at hgen hfirst hsecs hnote hnx hat
  simp only [argSlots]
  refine goA ?_
  refine t_drawm [0, 1, 2, 3] 23 rfl rfl (by kernel_rfl) ?_
  (repeat first | (apply d_w [5] rfl rfl rfl (by kernel_rfl) (fun _ h => by first | exact h | exact Hp.sub h (.cons _ (.refl _)) | exact Hp.sub h (.cons _ (.cons _ (.refl _))) | exact Hp.sub h (.cons _ (.cons _ (.cons _ (.refl _)))) | exact Hp.sub h (.cons _ (.cons _ (.cons _ (.cons _ (.refl _))))) | exact Hp.sub h (.cons _ (.cons _ (.cons _ (.cons _ (.cons _ (.refl _)))))) | exact Hp.sub h (.cons _ (.cons _ (.cons _ (.cons _ (.cons _ (.cons _ (.refl _))))))) | exact Hp.sub h (.cons_cons _ (.cons_cons _ (List.nil_sublist _))) | exact Hp.sub h (.cons _ (.cons_cons _ (.cons_cons _ (List.nil_sublist _))))); focus (first | exact v_move rfl | exact v_assign rfl | exact v_bt rfl rfl | exact v_extract rfl rfl | exact v_field0 rfl rfl | exact v_field rfl rfl | exact v_lens rfl rfl | exact v_lenstr rfl rfl | exact v_nt rfl | exact v_load1p rfl rfl (by repeat first | exact .head _ | apply List.Mem.tail) | exact v_loadn rfl rfl (by repeat first | exact .head _ | apply List.Mem.tail) rfl | exact v_loadp rfl rfl (by repeat first | exact .head _ | apply List.Mem.tail) rfl | exact v_loada rfl rfl (by repeat first | exact .head _ | apply List.Mem.tail) | exact v_eqb rfl rfl rfl | exact v_slA rfl rfl rfl | exact v_builds rfl rfl rfl rfl rfl | exact v_eqs rfl rfl | exact v_nc rfl | exact v_caps rfl rfl | exact v_eqpn rfl rfl rfl | exact v_nepn rfl rfl rfl | exact v_neps rfl rfl rfl rfl | ((first | refine v_bn rfl rfl ?_ | refine v_is1 rfl rfl rfl ?_ | refine v_ia1 rfl rfl rfl ?_ | refine v_sa rfl rfl rfl ?_ | refine v_sF rfl rfl rfl ?_ | refine v_sT rfl rfl rfl ?_ | refine v_sFT rfl rfl rfl rfl ?_ | refine v_lF rfl rfl rfl rfl ?_ | refine v_is rfl rfl rfl ?_ | refine v_ia rfl rfl rfl ?_ | refine v_lT rfl rfl rfl rfl ?_ | refine v_cv rfl rfl rfl ?_ | refine v_slLH rfl rfl rfl rfl rfl ?_ | refine v_sl3 rfl rfl rfl rfl rfl ?_); first | omega | assumption) | exact v_pT rfl rfl (by first | omega | assumption | (simp; done) | exact fun h => h (by assumption) | fail) | exact v_pF rfl rfl (by first | omega | assumption | (simp; done) | exact fun h => h (by assumption) | fail) | exact v_pickB rfl rfl rfl)) | refine d_no [5] rfl rfl rfl (by kernel_rfl) (fun _ h => by first | exact h | exact Hp.sub h (.cons _ (.refl _)) | exact Hp.sub h (.cons _ (.cons _ (.refl _))) | exact Hp.sub h (.cons _ (.cons _ (.cons _ (.refl _)))) | exact Hp.sub h (.cons _ (.cons _ (.cons _ (.cons _ (.refl _))))) | exact Hp.sub h (.cons _ (.cons _ (.cons _ (.cons _ (.cons _ (.refl _)))))) | exact Hp.sub h (.cons _ (.cons _ (.cons _ (.cons _ (.cons _ (.cons _ (.refl _))))))) | exact Hp.sub h (.cons_cons _ (.cons_cons _ (List.nil_sublist _))) | exact Hp.sub h (.cons _ (.cons_cons _ (.cons_cons _ (List.nil_sublist _))))) ?_ | refine d_T [5] rfl rfl rfl rfl (by first | omega | assumption | (simp; done) | exact fun h => h (by assumption) | fail) ?_ | refine d_F [5] rfl rfl rfl rfl (by first | omega | assumption | (simp; done) | exact fun h => h (by assumption) | fail) ?_)
  refine d_v [21] rfl rfl (by kernel_rfl) (fun _ h => by first | exact h | exact Hp.sub h (.cons _ (.refl _)) | exact Hp.sub h (.cons _ (.cons _ (.refl _))) | exact Hp.sub h (.cons _ (.cons _ (.cons _ (.refl _)))) | exact Hp.sub h (.cons _ (.cons _ (.cons _ (.cons _ (.refl _))))) | exact Hp.sub h (.cons _ (.cons _ (.cons _ (.cons _ (.cons _ (.refl _)))))) | exact Hp.sub h (.cons _ (.cons _ (.cons _ (.cons _ (.cons _ (.cons _ (.refl _))))))) | exact Hp.sub h (.cons_cons _ (.cons_cons _ (List.nil_sublist _))) | exact Hp.sub h (.cons _ (.cons_cons _ (.cons_cons _ (List.nil_sublist _))))) rfl rfl (v_addUw (a := gen) (b := 1) rfl rfl) ?_
  (repeat first | (apply d_w [21] rfl rfl rfl (by kernel_rfl) (fun _ h => by first | exact h | exact Hp.sub h (.cons _ (.refl _)) | exact Hp.sub h (.cons _ (.cons _ (.refl _))) | exact Hp.sub h (.cons _ (.cons _ (.cons _ (.refl _)))) | exact Hp.sub h (.cons _ (.cons _ (.cons _ (.cons _ (.refl _))))) | exact Hp.sub h (.cons _ (.cons _ (.cons _ (.cons _ (.cons _ (.refl _)))))) | exact Hp.sub h (.cons _ (.cons _ (.cons _ (.cons _ (.cons _ (.cons _ (.refl _))))))) | exact Hp.sub h (.cons_cons _ (.cons_cons _ (List.nil_sublist _))) | exact Hp.sub h (.cons _ (.cons_cons _ (.cons_cons _ (List.nil_sublist _))))); focus (first | exact v_move rfl | exact v_assign rfl | exact v_bt rfl rfl | exact v_extract rfl rfl | exact v_field0 rfl rfl | exact v_field rfl rfl | exact v_lens rfl rfl | exact v_lenstr rfl rfl | exact v_nt rfl | exact v_load1p rfl rfl (by repeat first | exact .head _ | apply List.Mem.tail) | exact v_loadn rfl rfl (by repeat first | exact .head _ | apply List.Mem.tail) rfl | exact v_loadp rfl rfl (by repeat first | exact .head _ | apply List.Mem.tail) rfl | exact v_loada rfl rfl (by repeat first | exact .head _ | apply List.Mem.tail) | exact v_eqb rfl rfl rfl | exact v_slA rfl rfl rfl | exact v_builds rfl rfl rfl rfl rfl | exact v_eqs rfl rfl | exact v_nc rfl | exact v_caps rfl rfl | exact v_eqpn rfl rfl rfl | exact v_nepn rfl rfl rfl | exact v_neps rfl rfl rfl rfl | ((first | refine v_bn rfl rfl ?_ | refine v_is1 rfl rfl rfl ?_ | refine v_ia1 rfl rfl rfl ?_ | refine v_sa rfl rfl rfl ?_ | refine v_sF rfl rfl rfl ?_ | refine v_sT rfl rfl rfl ?_ | refine v_sFT rfl rfl rfl rfl ?_ | refine v_lF rfl rfl rfl rfl ?_ | refine v_is rfl rfl rfl ?_ | refine v_ia rfl rfl rfl ?_ | refine v_lT rfl rfl rfl rfl ?_ | refine v_cv rfl rfl rfl ?_ | refine v_slLH rfl rfl rfl rfl rfl ?_ | refine v_sl3 rfl rfl rfl rfl rfl ?_); first | omega | assumption) | exact v_pT rfl rfl (by first | omega | assumption | (simp; done) | exact fun h => h (by assumption) | fail) | exact v_pF rfl rfl (by first | omega | assumption | (simp; done) | exact fun h => h (by assumption) | fail) | exact v_pickB rfl rfl rfl)) | refine d_no [21] rfl rfl rfl (by kernel_rfl) (fun _ h => by first | exact h | exact Hp.sub h (.cons _ (.refl _)) | exact Hp.sub h (.cons _ (.cons _ (.refl _))) | exact Hp.sub h (.cons _ (.cons _ (.cons _ (.refl _)))) | exact Hp.sub h (.cons _ (.cons _ (.cons _ (.cons _ (.refl _))))) | exact Hp.sub h (.cons _ (.cons _ (.cons _ (.cons _ (.cons _ (.refl _)))))) | exact Hp.sub h (.cons _ (.cons _ (.cons _ (.cons _ (.cons _ (.cons _ (.refl _))))))) | exact Hp.sub h (.cons_cons _ (.cons_cons _ (List.nil_sublist _))) | exact Hp.sub h (.cons _ (.cons_cons _ (.cons_cons _ (List.nil_sublist _))))) ?_ | refine d_T [21] rfl rfl rfl rfl (by first | omega | assumption | (simp; done) | exact fun h => h (by assumption) | fail) ?_ | refine d_F [21] rfl rfl rfl rfl (by first | omega | assumption | (simp; done) | exact fun h => h (by assumption) | fail) ?_)
  refine d_say 24 _ (.agg (hdA ⟨(gen + 1) % 18446744073709551616, next, secs, note⟩)) rfl rfl ?_
  have hgm : (gen + 1) % 18446744073709551616 < 18446744073709551616 := Nat.mod_lt _ (by decide)
  have htH : trimH ⟨⟨gen, first, secs, note⟩, at_, next, used, dead⟩ = ⟨(gen + 1) % 18446744073709551616, next, secs, note⟩ := rfl
  simp only [trimG, htH]
  generalize (gen + 1) % 18446744073709551616 = gm at hgm ⊢
  refine d_opg 21 ⟨by kernel_rfl, by decide⟩ rfl rfl (o_alloc rfl rfl) (fun _ _ h => goH h) fun ⟨b2, hb2⟩ => ?_
  refine goE ?_
  refine d_opg 22 ⟨by kernel_rfl, by decide⟩ rfl rfl (o_storea (cs' := hdA ⟨gm, next, secs, note⟩) rfl rfl rfl rfl rfl rfl) (fun _ _ h => goH h) fun _ => ?_
  refine d_end (by kernel_rfl) ?_
  refine goA ?_
  refine t_pick [3, 4, 0, 1, 2] rfl rfl ?_
  refine t_drawm [2, 3, 4] 12 rfl rfl (by kernel_rfl) ?_
  refine goE ?_
  refine d_opg 8 ⟨by kernel_rfl, by decide⟩ rfl rfl (o_pure rfl (by kernel_rfl) rfl (fun w1 hw1 => other_calls (at_ : Int) (by omega) w1)) (fun _ _ h => goH h) fun _ => ?_
  refine goE ?_
  have hof : otherF (at_ : Int) < 9223372036854775808 := by unfold otherF; split <;> decide
  simp only
  generalize hoe : otherF (at_ : Int) = oa at hof ⊢
  refine d_opg 10 ⟨by kernel_rfl, by decide⟩ rfl rfl (o_cu (pre := [dkI d, ctI]) rfl (by kernel_rfl) rfl (dc_stable d) (fun w1 hw1 hh1 ha1 => write_calls d ok hkl hwl oa hof ⟨gm, next, secs, note⟩ ⟨hgm, hnx, hsecs, hnote⟩ w1 hh1 ha1)) (fun _ _ h => goH h) fun ⟨d', hd'⟩ => ?_
  refine goE ?_
  refine d_end (by kernel_rfl) ?_
  dsimp only
  generalize hwr : writeHF d.D oa ⟨gm, next, secs, note⟩ = r at hd' ⊢
  obtain ⟨hd1, hd2, hd3⟩ := hd'
  refine goA ?_
  have hlg : ∀ g : Lg, lgI b d g = lgI b d' g := fun g => by unfold lgI lgA; rw [hd1]
  have hsts : ∀ g : Lg, ∀ it ∈ [lgI b d' g, boxI bl b, dkI d', ctI], it.Stable none' := by
    intro g it hm
    rcases hm with _ | ⟨_, _ | ⟨_, hm⟩⟩
    · exact pt_stable _ _ _
    · exact pt_stable _ _ _
    · exact dc_stable d' it hm
  by_cases he : r.1 = 0
  · rw [he]
    refine goA ?_
    refine t_pick [3, 2, 4, 0, 1] rfl rfl ?_
    refine t_drawm [1, 2, 3, 4] 18 rfl rfl (by kernel_rfl) ?_
    refine goE ?_
    refine d_opg 7 ⟨by kernel_rfl, by decide⟩ rfl rfl (o_val rfl (v_loadp rfl rfl (.head _) rfl)) (fun _ _ h => goH h) fun _ => ?_
    refine goE ?_
    refine d_opg 8 ⟨by kernel_rfl, by decide⟩ rfl rfl (o_pure rfl (by kernel_rfl) rfl (fun w1 hw1 => other_calls (at_ : Int) (by omega) w1)) (fun _ _ h => goH h) fun _ => ?_
    rw [hoe]
    refine goE ?_
    refine d_opg 11 ⟨by kernel_rfl, by decide⟩ rfl rfl (o_storerE (V := [.int .u64 (gm : Int), .int .u64 (next : Int), .int .i64 (secs : Int), .string ⟨note.toArray⟩]) rfl rfl rfl rfl rfl rfl (show (1 + 4 : Nat) ≤ 9 from by decide)) (fun _ _ h => goH h) fun _ => ?_
    refine goE ?_
    refine d_opg 14 ⟨by kernel_rfl, by decide⟩ rfl rfl (o_store1 rfl rfl rfl rfl rfl rfl (show (5 : Nat) < 9 from by decide)) (fun _ _ h => goH h) fun _ => ?_
    refine goE ?_
    refine d_opg 17 ⟨by kernel_rfl, by decide⟩ rfl rfl (o_store1 rfl rfl rfl rfl rfl rfl (show (7 : Nat) < 9 from by decide)) (fun _ _ h => goH h) fun _ => ?_
    refine d_end (by kernel_rfl) ?_
    simp only [if_true]
    refine goA ?_
    refine x_imp (m' := [lgI b d' ⟨⟨gm, next, secs, note⟩, oa, next, 0, dead⟩, boxI bl b, dkI d', ctI]) (fun w' hw' => by rw [← hlg]; exact hw'.pick [0, 2, 3, 4] rfl rfl) (x_ct d' rfl rfl rfl ⟨hd1, hd2, hd3⟩ (.refl _) (hsts _))
  · have hne : ((r.1 : Int) != 0) = true := by simp [he]
    rw [hne]
    simp only [if_neg he]
    refine goA ?_
    refine x_imp (m' := [lgI b d' ⟨⟨gen, first, secs, note⟩, at_, next, used, dead⟩, boxI bl b, dkI d', ctI]) (fun w' hw' => by rw [← hlg]; exact hw'.pick [3, 4, 0, 1] rfl rfl) (x_ct d' rfl rfl rfl ⟨hd1, hd2, hd3⟩ (.refl _) (hsts _))
end Go.Proofs.YtplhamichcnmmaaGreatDoor
