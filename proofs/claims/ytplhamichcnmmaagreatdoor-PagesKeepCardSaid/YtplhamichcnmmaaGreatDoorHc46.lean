/- law 8: a store that is known. -/
import Derived.Test.YtplhamichcnmmaaGreatDoorHc45
import Derived.LaidEqlPtr
namespace Go.Eng
open Go.RowKit
theorem v_eqps {P : Program} {l : Slots} {H : World → Prop} {ty T U e : TypeId} {x y : Operand} {a : Addr} (hx : evO l x = some (.pointer (some a))) (hy : evO l y = some (.pointer (some a))) (hT : ptrE P T = some e) (hi : (P.info? e).isSome = true) : OV P (.binOp .eql T x y U) ty l H (.bool true) := v_bin hx hy fun w => by
  show ((binOp .eql T (.pointer (some a)) (.pointer (some a))).run P w) = _
  obtain ⟨j, hj⟩ := Option.isSome_iff_exists.1 hi
  exact run_eql_ptr_same w a (ptrE_spec hT).1 hj
end Go.Eng
namespace Go.Proofs.YtplhamichcnmmaaGreatDoor
open Go.RowKit Go.Eng Go.Eng.Bm
set_option maxRecDepth 100000
set_option maxHeartbeats 40000000
theorem StX.self {s : Pg} {D : Dsk} {n secs : Nat} {note : Bys} {V : List Bys} {C : PR} {B : Nat} (h : StX s D n secs note V C B) : StX s D n secs note V s.C B := by
  obtain ⟨TS, h1⟩ := h.st
  exact ⟨h.st, fun _ => rfl, h1.Cn, h.keep, h.p0, h.c0⟩
theorem ct_tz_stable : ∀ it ∈ [ctI, tzI], it.Stable none' := by
  intro it hm
  rcases hm with _ | ⟨_, _ | ⟨_, hm⟩⟩
  · exact ctI_stable _
  · exact tzI_stable _
  · cases hm
theorem ct1_stable : ∀ it ∈ [ctI], it.Stable none' := by
  intro it hm
  rcases hm with _ | ⟨_, hm⟩
  · exact ctI_stable _
  · cases hm
theorem StX.has {s : Pg} {D : Dsk} {n secs : Nat} {note : Bys} {V : List Bys} {C : PR} {B : Nat} (h : StX s D n secs note V C B) (hB : B < 9223372036854775808) : ∃ hd c TS, RecI D n secs note V B hd c TS := by
  obtain ⟨TS, h1⟩ := h.st
  exact ⟨_, _, _, h1.rec' hB⟩
theorem known_S1 : cnt (upd (upd noU 0 true) 1 true) 1024 = 2 := by
  rw [show (1024 : Nat) = 2 + 1022 from rfl, cnt_canon (n := 2) (fun j hj => by unfold upd noU; rw [if_neg (by omega), if_neg (by omega)]) 1022]
  rfl
theorem known_open (s : Pg) (V : List Bys) (hV : V = V0 128) (b : Bys) (hC : s.C = [(0, bmB 128 (upd (upd noU 0 true) 1 true)), (1, b)]) : viewF (overV V s.C) [] 1 = b ∧ viewF (overV V s.C) [] 0 = bmB 128 (upd (upd noU 0 true) 1 true) := by
  have hl : V.length = 128 := by rw [hV, V0_len]
  have e : ∀ i, i < 128 → viewF (overV V s.C) [] i = viewF V s.C i := fun i hi => by
    exact over_view (by rw [hl]; exact hi)
  refine ⟨?_, ?_⟩
  · rw [e 1 (by decide), hC]; rfl
  · rw [e 0 (by decide), hC]; rfl
theorem wakes_calls (w : World) (hw : ∀ it ∈ [ctI, tzI], Here it w) (ha : [ctI, tzI].Pairwise Eng.Item.Apart) :
    Ct Tryz.prog 7 #[] w (foots [ctI, tzI]) (fun _ : Unit => .bool true) (fun _ => True) (fun _ => [ctI, tzI]) := by
  refine cu_of [] _ Tryz.func7 rfl rfl hw ha ?_
  simp only [argSlots]
  refine goA ?_
  refine l_opg rfl (o_cu (pre := [ctI]) rfl (by kernel_rfl) rfl ct1_stable (fun w1 hw1 hh1 ha1 => begins_calls 96 (by decide) (by decide) w1 hh1)) fun ⟨x, hx⟩ => ?_
  obtain ⟨⟨hst, ar, -, -, -⟩, hleft, hV, hC⟩ := hx
  obtain ⟨xb, s, d, pv, cv, pm, V, C, A⟩ := x
  dsimp only at hst ar hleft hV hC ⊢
  have hsC : s.C = [] := List.eq_nil_of_length_eq_zero (by rw [← hst.many, hC]; rfl)
  have hn := hst.hn
  have ho := hst.ok
  have hz := hst.siz
  have hr := hst.rest
  have hwt : d.D.wait.length ≤ 1000000000 := by rw [hr.wait]; decide
  have hS1 : BmIs 128 (bm0 128) (upd noU 0 true) := bm0_ok 128 (by decide)
  have hview : viewF V C 0 = bm0 128 := by rw [hC, hV]; show (V0 128).getD 0 [] = _; rw [List.getD_eq_getElem?_getD, V0_at (by decide)]; rfl
  have hSp : pageB s d.D 0 = bmB s.n (upd noU 0 true) := by rw [hst.pageB (by decide), hview, hn]; rfl
  have hlow : ∀ j, j < 1 → upd noU 0 true j = true := fun j hj => by
    have h0 : j = 0 := by omega
    rw [h0]; rfl
  unfold lwC
  simp only [List.cons_append, List.nil_append]
  refine goA ?_
  refine l_pick [1, 2, 5, 3, 0] rfl rfl ?_
  refine l_opg rfl (o_cu (pre := [pgI s d, dkI d, tzI]) rfl (by kernel_rfl) rfl (pdt_stable s d) (fun w1 hw1 hh1 ha1' => pgalloc_some s d hz.ok hr.live hwt hst.dead ho (upd noU 0 true) hSp (by rw [hn]; exact hS1.2.1) rfl 1 (by rw [hn]; decide) rfl hlow w1 hh1 ha1')) fun ⟨_, _⟩ => ?_
  have hst2 := hst.page (i := 0) (by decide)
  have hS1' : BmIs 128 (bmB 128 (upd (upd noU 0 true) 1 true)) (upd (upd noU 0 true) 1 true) := ⟨rfl, canon_upd hS1.2.1 (by decide), rfl⟩
  have hst3 := hst2.self.ins (i := 0) (b := bmB 128 (upd (upd noU 0 true) 1 true)) (by decide) (bmB_len _ _) (fun _ => ⟨_, hS1'⟩)
  have hst4 : StX (allocS s d.D (upd noU 0 true) 1) d.D 128 96 noteB V (allocS s d.D (upd noU 0 true) 1).C 2 := by
    unfold allocS
    rw [hn]
    exact (hst3.self.ins (i := 1) (b := zeroB) (by decide) List.length_replicate (fun h => absurd h (by decide))).self
  have hC4 : (allocS s d.D (upd noU 0 true) 1).C = [(0, bmB 128 (upd (upd noU 0 true) 1 true)), (1, zeroB)] := by
    unfold allocS
    rw [hn]
    show insG (insG (pageS s d.D 0).C 0 _) 1 zeroB = _
    rw [pageS_C, hsC]
    rfl
  have hsb4 : (allocS s d.D (upd noU 0 true) 1).b = s.b := pageS_b s d.D 0
  generalize allocS s d.D (upd noU 0 true) 1 = s4 at hst4 hsb4 hC4 ⊢
  rw [← hsb4]
  simp only [List.cons_append, List.nil_append]
  refine goA ?_
  refine t_pick [0, 1, 3, 4, 2] rfl rfl ?_
  refine t_drawm [3, 4] 13 rfl rfl (by kernel_rfl) ?_
  (repeat first | (apply d_w [4] rfl rfl rfl (by kernel_rfl) (fun _ h => by first | exact h | exact Hp.sub h (.cons _ (.refl _)) | exact Hp.sub h (.cons _ (.cons _ (.refl _))) | exact Hp.sub h (.cons _ (.cons _ (.cons _ (.refl _)))) | exact Hp.sub h (.cons _ (.cons _ (.cons _ (.cons _ (.refl _))))) | exact Hp.sub h (.cons _ (.cons _ (.cons _ (.cons _ (.cons _ (.refl _)))))) | exact Hp.sub h (.cons _ (.cons _ (.cons _ (.cons _ (.cons _ (.cons _ (.refl _))))))) | exact Hp.sub h (.cons_cons _ (.cons_cons _ (List.nil_sublist _))) | exact Hp.sub h (.cons _ (.cons_cons _ (.cons_cons _ (List.nil_sublist _))))); focus (first | exact v_move rfl | exact v_assign rfl | exact v_bt rfl rfl | exact v_extract rfl rfl | exact v_field0 rfl rfl | exact v_field rfl rfl | exact v_lens rfl rfl | exact v_lenstr rfl rfl | exact v_nt rfl | exact v_load1p rfl rfl (by repeat first | exact .head _ | apply List.Mem.tail) | exact v_loadn rfl rfl (by repeat first | exact .head _ | apply List.Mem.tail) rfl | exact v_loadp rfl rfl (by repeat first | exact .head _ | apply List.Mem.tail) rfl | exact v_loada rfl rfl (by repeat first | exact .head _ | apply List.Mem.tail) | exact v_eqb rfl rfl rfl | exact v_slA rfl rfl rfl | exact v_builds rfl rfl rfl rfl rfl | exact v_eqs rfl rfl | exact v_nc rfl | exact v_caps rfl rfl | exact v_eqpn rfl rfl rfl | exact v_nepn rfl rfl rfl | exact v_neps rfl rfl rfl rfl | ((first | refine v_bn rfl rfl ?_ | refine v_is1 rfl rfl rfl ?_ | refine v_ia1 rfl rfl rfl ?_ | refine v_sa rfl rfl rfl ?_ | refine v_sF rfl rfl rfl ?_ | refine v_sT rfl rfl rfl ?_ | refine v_sFT rfl rfl rfl rfl ?_ | refine v_lF rfl rfl rfl rfl ?_ | refine v_is rfl rfl rfl ?_ | refine v_ia rfl rfl rfl ?_ | refine v_lT rfl rfl rfl rfl ?_ | refine v_cv rfl rfl rfl ?_ | refine v_slLH rfl rfl rfl rfl rfl ?_ | refine v_sl3 rfl rfl rfl rfl rfl ?_); first | omega | assumption) | exact v_pT rfl rfl (by first | omega | assumption | (simp; done) | exact fun h => h (by assumption) | fail) | exact v_pF rfl rfl (by first | omega | assumption | (simp; done) | exact fun h => h (by assumption) | fail) | exact v_pickB rfl rfl rfl)) | refine d_no [4] rfl rfl rfl (by kernel_rfl) (fun _ h => by first | exact h | exact Hp.sub h (.cons _ (.refl _)) | exact Hp.sub h (.cons _ (.cons _ (.refl _))) | exact Hp.sub h (.cons _ (.cons _ (.cons _ (.refl _)))) | exact Hp.sub h (.cons _ (.cons _ (.cons _ (.cons _ (.refl _))))) | exact Hp.sub h (.cons _ (.cons _ (.cons _ (.cons _ (.cons _ (.refl _)))))) | exact Hp.sub h (.cons _ (.cons _ (.cons _ (.cons _ (.cons _ (.cons _ (.refl _))))))) | exact Hp.sub h (.cons_cons _ (.cons_cons _ (List.nil_sublist _))) | exact Hp.sub h (.cons _ (.cons_cons _ (.cons_cons _ (List.nil_sublist _))))) ?_ | refine d_T [4] rfl rfl rfl rfl (by first | omega | assumption | (simp; done) | exact fun h => h (by assumption) | fail) ?_ | refine d_F [4] rfl rfl rfl rfl (by first | omega | assumption | (simp; done) | exact fun h => h (by assumption) | fail) ?_)
  refine d_opg 4 ⟨by kernel_rfl, by decide⟩ rfl rfl (o_ct rfl (by kernel_rfl) rfl (fun w1 hw1 => full_calls 97 w1)) (fun _ _ h => goH h) fun ⟨b4, _⟩ => ?_
  simp only [List.cons_append, List.nil_append]
  refine goE ?_
  have hfl : (fullB 97).length = 512 := List.length_replicate
  refine d_opg 5 ⟨by kernel_rfl, by decide⟩ rfl rfl (ho_perm (bring1 _ _ _) (o_cu (pre := [pgI s4 d]) rfl (by kernel_rfl) rfl (pg1_stable s4 d) (fun w1 hw1 hh1 ha1 => pgput_calls s4 d 1 (fullB 97) hfl (some ⟨b4, 0, none⟩) 512 hst4.dead (by rw [hst4.hn]; decide) w1 hh1 (.inr ⟨b4, 0, rfl, (hw1.item (rdI b4 (fullB 97)) (by repeat first | exact .head _ | apply List.Mem.tail)).1.1⟩) (rd_apart hw1)))) (fun _ _ h => goH h) fun ⟨_, _⟩ => ?_
  have hn4 : s4.n = 128 := hst4.hn
  have hng : ¬ ((1 : Int) < 1 ∨ (s4.n : Int) ≤ 1) := by omega
  simp only [if_neg hng]
  have hst5 := (hst4.ins (i := 1) (b := fullB 97) (by decide) hfl (fun h => absurd h (by decide))).self
  have hC5 : ({ s4 with C := insG s4.C 1 (fullB 97) } : Pg).C = [(0, bmB 128 (upd (upd noU 0 true) 1 true)), (1, fullB 97)] := by
    show insG s4.C 1 (fullB 97) = _
    rw [hC4]; rfl
  have hb5 : ({ s4 with C := insG s4.C 1 (fullB 97) } : Pg).b = s4.b := rfl
  rw [show (Int.toNat 1) = 1 from rfl]
  generalize ({ s4 with C := insG s4.C 1 (fullB 97) } : Pg) = s5 at hst5 hC5 hb5 ⊢
  rw [← hb5]
  simp only [List.cons_append, List.nil_append]
  refine d_pick [0, 2, 3, 4, 5] rfl rfl ?_
  refine d_opg 10 ⟨by kernel_rfl, by decide⟩ rfl rfl (o_cu (pre := [pgI s5 d, dkI d, ctI]) rfl (by kernel_rfl) rfl (pdc_stable s5 d) (fun w1 hw1 hh1 ha1 => pcommit_calls s5 d 128 96 noteB V s5.C 2 hst5 (by decide) (by rw [hC5]; exact List.cons_ne_nil _ _) w1 hh1 ha1)) (fun _ _ h => goH h) fun ⟨⟨e6, d6, s6⟩, h6⟩ => ?_
  obtain ⟨q1, q2, q3⟩ := h6
  dsimp only at q1 q2 q3 ⊢
  have hnd : needC' s5.C ≤ 96 := by rw [hC5]; decide
  obtain ⟨rfl, hlv, hst6⟩ : e6 = 0 ∧ Lives d.D d6.D ∧ StX s6 d6.D 128 96 noteB (overV V s5.C) [] (2 + 601) := by
    rcases q3 with ⟨-, h, -⟩ | ⟨-, h1, h2, h3⟩ | ⟨-, -, h, -⟩
    · omega
    · exact ⟨h1, h2, h3⟩
    · exact absurd hleft h
  have hl6 : d6.D.left = none := hlv.left hleft
  obtain ⟨k1, k2⟩ := known_open s5 V hV (fullB 97) hC5
  generalize overV V s5.C = V6 at hst6 k1 k2
  simp only [List.cons_append, List.nil_append]
  refine goE ?_
  refine d_end (by kernel_rfl) ?_
  rw [← q1, ← q2]
  have hfl8 : (fullB 98).length = 512 := List.length_replicate
  have hn6 : s6.n = 128 := hst6.hn
  have hng6 : ¬ ((1 : Int) < 1 ∨ (s6.n : Int) ≤ 1) := by omega
  refine goA ?_
  refine t_drawm [3, 4] 7 rfl rfl (by kernel_rfl) ?_
  (repeat first | (apply d_w [4] rfl rfl rfl (by kernel_rfl) (fun _ h => by first | exact h | exact Hp.sub h (.cons _ (.refl _)) | exact Hp.sub h (.cons _ (.cons _ (.refl _))) | exact Hp.sub h (.cons _ (.cons _ (.cons _ (.refl _)))) | exact Hp.sub h (.cons _ (.cons _ (.cons _ (.cons _ (.refl _))))) | exact Hp.sub h (.cons _ (.cons _ (.cons _ (.cons _ (.cons _ (.refl _)))))) | exact Hp.sub h (.cons _ (.cons _ (.cons _ (.cons _ (.cons _ (.cons _ (.refl _))))))) | exact Hp.sub h (.cons_cons _ (.cons_cons _ (List.nil_sublist _))) | exact Hp.sub h (.cons _ (.cons_cons _ (.cons_cons _ (List.nil_sublist _))))); focus (first | exact v_move rfl | exact v_assign rfl | exact v_bt rfl rfl | exact v_extract rfl rfl | exact v_field0 rfl rfl | exact v_field rfl rfl | exact v_lens rfl rfl | exact v_lenstr rfl rfl | exact v_nt rfl | exact v_load1p rfl rfl (by repeat first | exact .head _ | apply List.Mem.tail) | exact v_loadn rfl rfl (by repeat first | exact .head _ | apply List.Mem.tail) rfl | exact v_loadp rfl rfl (by repeat first | exact .head _ | apply List.Mem.tail) rfl | exact v_loada rfl rfl (by repeat first | exact .head _ | apply List.Mem.tail) | exact v_eqb rfl rfl rfl | exact v_slA rfl rfl rfl | exact v_builds rfl rfl rfl rfl rfl | exact v_eqs rfl rfl | exact v_nc rfl | exact v_caps rfl rfl | exact v_eqpn rfl rfl rfl | exact v_nepn rfl rfl rfl | exact v_neps rfl rfl rfl rfl | ((first | refine v_bn rfl rfl ?_ | refine v_is1 rfl rfl rfl ?_ | refine v_ia1 rfl rfl rfl ?_ | refine v_sa rfl rfl rfl ?_ | refine v_sF rfl rfl rfl ?_ | refine v_sT rfl rfl rfl ?_ | refine v_sFT rfl rfl rfl rfl ?_ | refine v_lF rfl rfl rfl rfl ?_ | refine v_is rfl rfl rfl ?_ | refine v_ia rfl rfl rfl ?_ | refine v_lT rfl rfl rfl rfl ?_ | refine v_cv rfl rfl rfl ?_ | refine v_slLH rfl rfl rfl rfl rfl ?_ | refine v_sl3 rfl rfl rfl rfl rfl ?_); first | omega | assumption) | exact v_pT rfl rfl (by first | omega | assumption | (simp; done) | exact fun h => h (by assumption) | fail) | exact v_pF rfl rfl (by first | omega | assumption | (simp; done) | exact fun h => h (by assumption) | fail) | exact v_pickB rfl rfl rfl)) | refine d_no [4] rfl rfl rfl (by kernel_rfl) (fun _ h => by first | exact h | exact Hp.sub h (.cons _ (.refl _)) | exact Hp.sub h (.cons _ (.cons _ (.refl _))) | exact Hp.sub h (.cons _ (.cons _ (.cons _ (.refl _)))) | exact Hp.sub h (.cons _ (.cons _ (.cons _ (.cons _ (.refl _))))) | exact Hp.sub h (.cons _ (.cons _ (.cons _ (.cons _ (.cons _ (.refl _)))))) | exact Hp.sub h (.cons _ (.cons _ (.cons _ (.cons _ (.cons _ (.cons _ (.refl _))))))) | exact Hp.sub h (.cons_cons _ (.cons_cons _ (List.nil_sublist _))) | exact Hp.sub h (.cons _ (.cons_cons _ (.cons_cons _ (List.nil_sublist _))))) ?_ | refine d_T [4] rfl rfl rfl rfl (by first | omega | assumption | (simp; done) | exact fun h => h (by assumption) | fail) ?_ | refine d_F [4] rfl rfl rfl rfl (by first | omega | assumption | (simp; done) | exact fun h => h (by assumption) | fail) ?_)
  refine d_opg 4 ⟨by kernel_rfl, by decide⟩ rfl rfl (o_ct rfl (by kernel_rfl) rfl (fun w1 hw1 => full_calls 98 w1)) (fun _ _ h => goH h) fun ⟨b4, _⟩ => ?_
  simp only [List.cons_append, List.nil_append]
  refine goE ?_
  refine d_opg 5 ⟨by kernel_rfl, by decide⟩ rfl rfl (ho_perm (bring1 _ _ _) (o_cu (pre := [pgI s6 d6]) rfl (by kernel_rfl) rfl (pg1_stable s6 d6) (fun w1 hw1 hh1 ha1 => pgput_calls s6 d6 1 (fullB 98) hfl8 (some ⟨b4, 0, none⟩) 512 hst6.dead (by rw [hst6.hn]; decide) w1 hh1 (.inr ⟨b4, 0, rfl, (hw1.item (rdI b4 (fullB 98)) (by repeat first | exact .head _ | apply List.Mem.tail)).1.1⟩) (rd_apart hw1)))) (fun _ _ h => goH h) fun ⟨_, _⟩ => ?_
  simp only [if_neg hng6, List.cons_append, List.nil_append]
  refine goE ?_
  refine d_end (by kernel_rfl) ?_
  refine goA ?_
  refine l_pick [2, 3, 4, 5] rfl rfl ?_
  refine l_opg rfl (o_cu (pre := [dkI d6, ctI]) rfl (by kernel_rfl) rfl (dc_stable d6) (fun w1 hw1 hh1 ha1 => popen_calls d6 128 96 noteB V6 (2 + 601) hst6.keep hst6.rest hst6.siz (by decide) (hst6.has (by decide)) hst6.p0 w1 hh1 ha1)) fun ⟨⟨d7, so⟩, hd7⟩ => ?_
  obtain ⟨r1, r2⟩ := hd7
  cases so with
  | none => exact absurd hl6 r2.1
  | some s7 =>
    obtain ⟨r2, hst7⟩ := r2
    rw [show oqV (d7, some s7) = .tuple #[.pointer (some ⟨s7.b, 0, none⟩), .int .i64 ((0 : Nat) : Int)] from rfl]
    simp only [oqI, List.cons_append, List.nil_append]
    refine goA ?_
    have hn7 := hst7.hn
    refine l_opg rfl (o_cu (pre := [pgI s7 d7, dkI d7]) rfl (by kernel_rfl) rfl (pd_stable s7 d7) (fun w1 hw1 hh1 ha1 => pgpage_calls s7 d7 hst7.siz.ok hst7.rest.live (by rw [hst7.rest.wait]; decide) hst7.dead hst7.ok 1 (by rw [hn7]; decide) w1 hh1 ha1)) fun ⟨b8, _⟩ => ?_
    rw [hst7.pageB (by decide), k1]
    have hst8 := hst7.page (i := 1) (by decide)
    have hb8 := pageS_b s7 d7.D 1
    generalize pageS s7 d7.D 1 = s8 at hst8 hb8 ⊢
    rw [← hb8]
    simp only [List.cons_append, List.nil_append]
    refine goA ?_
    rw [← r1]
    have hn8 := hst8.hn
    have hsecs8 : s8.g.h.secs = 96 := by obtain ⟨TS, h1⟩ := hst8.st; exact h1.hsecs
    have hnote8 : s8.note = noteB := by obtain ⟨TS, h1⟩ := hst8.st; exact h1.hnote
    refine t_pick [1, 2, 0, 3, 4, 5] rfl rfl ?_
    refine t_drawm [2, 3, 4, 5] 63 rfl rfl (by kernel_rfl) ?_
    (repeat first | (apply d_w [28, 29] rfl rfl rfl (by kernel_rfl) (fun _ h => by first | exact h | exact Hp.sub h (.cons _ (.refl _)) | exact Hp.sub h (.cons _ (.cons _ (.refl _))) | exact Hp.sub h (.cons _ (.cons _ (.cons _ (.refl _)))) | exact Hp.sub h (.cons _ (.cons _ (.cons _ (.cons _ (.refl _))))) | exact Hp.sub h (.cons _ (.cons _ (.cons _ (.cons _ (.cons _ (.refl _)))))) | exact Hp.sub h (.cons _ (.cons _ (.cons _ (.cons _ (.cons _ (.cons _ (.refl _))))))) | exact Hp.sub h (.cons_cons _ (.cons_cons _ (List.nil_sublist _))) | exact Hp.sub h (.cons _ (.cons_cons _ (.cons_cons _ (List.nil_sublist _))))); focus (first | exact v_move rfl | exact v_assign rfl | exact v_bt rfl rfl | exact v_extract rfl rfl | exact v_field0 rfl rfl | exact v_field rfl rfl | exact v_lens rfl rfl | exact v_lenstr rfl rfl | exact v_nt rfl | exact v_load1p rfl rfl (by repeat first | exact .head _ | apply List.Mem.tail) | exact v_loadn rfl rfl (by repeat first | exact .head _ | apply List.Mem.tail) rfl | exact v_loadp rfl rfl (by repeat first | exact .head _ | apply List.Mem.tail) rfl | exact v_loada rfl rfl (by repeat first | exact .head _ | apply List.Mem.tail) | exact v_eqb rfl rfl rfl | exact v_slA rfl rfl rfl | exact v_builds rfl rfl rfl rfl rfl | exact v_eqs rfl rfl | exact v_nc rfl | exact v_caps rfl rfl | exact v_eqpn rfl rfl rfl | exact v_nepn rfl rfl rfl | exact v_neps rfl rfl rfl rfl | ((first | refine v_bn rfl rfl ?_ | refine v_is1 rfl rfl rfl ?_ | refine v_ia1 rfl rfl rfl ?_ | refine v_sa rfl rfl rfl ?_ | refine v_sF rfl rfl rfl ?_ | refine v_sT rfl rfl rfl ?_ | refine v_sFT rfl rfl rfl rfl ?_ | refine v_lF rfl rfl rfl rfl ?_ | refine v_is rfl rfl rfl ?_ | refine v_ia rfl rfl rfl ?_ | refine v_lT rfl rfl rfl rfl ?_ | refine v_cv rfl rfl rfl ?_ | refine v_slLH rfl rfl rfl rfl rfl ?_ | refine v_sl3 rfl rfl rfl rfl rfl ?_); first | omega | assumption) | exact v_pT rfl rfl (by first | omega | assumption | (simp; done) | exact fun h => h (by assumption) | fail) | exact v_pF rfl rfl (by first | omega | assumption | (simp; done) | exact fun h => h (by assumption) | fail) | exact v_pickB rfl rfl rfl)) | refine d_no [28, 29] rfl rfl rfl (by kernel_rfl) (fun _ h => by first | exact h | exact Hp.sub h (.cons _ (.refl _)) | exact Hp.sub h (.cons _ (.cons _ (.refl _))) | exact Hp.sub h (.cons _ (.cons _ (.cons _ (.refl _)))) | exact Hp.sub h (.cons _ (.cons _ (.cons _ (.cons _ (.refl _))))) | exact Hp.sub h (.cons _ (.cons _ (.cons _ (.cons _ (.cons _ (.refl _)))))) | exact Hp.sub h (.cons _ (.cons _ (.cons _ (.cons _ (.cons _ (.cons _ (.refl _))))))) | exact Hp.sub h (.cons_cons _ (.cons_cons _ (List.nil_sublist _))) | exact Hp.sub h (.cons _ (.cons_cons _ (.cons_cons _ (List.nil_sublist _))))) ?_ | refine d_T [28, 29] rfl rfl rfl rfl (by first | omega | assumption | (simp; done) | exact fun h => h (by assumption) | fail) ?_ | refine d_F [28, 29] rfl rfl rfl rfl (by first | omega | assumption | (simp; done) | exact fun h => h (by assumption) | fail) ?_)
    refine d_v [29] rfl rfl (by kernel_rfl) (fun _ h => by first | exact h | exact Hp.sub h (.cons _ (.refl _)) | exact Hp.sub h (.cons _ (.cons _ (.refl _))) | exact Hp.sub h (.cons _ (.cons _ (.cons _ (.refl _)))) | exact Hp.sub h (.cons _ (.cons _ (.cons _ (.cons _ (.refl _))))) | exact Hp.sub h (.cons _ (.cons _ (.cons _ (.cons _ (.cons _ (.refl _)))))) | exact Hp.sub h (.cons _ (.cons _ (.cons _ (.cons _ (.cons _ (.cons _ (.refl _))))))) | exact Hp.sub h (.cons_cons _ (.cons_cons _ (List.nil_sublist _))) | exact Hp.sub h (.cons _ (.cons_cons _ (.cons_cons _ (List.nil_sublist _))))) rfl rfl (v_bstr (bs := fullB 97) rfl hfl.symm rfl rfl (fun w' hw' => .inr ⟨b8, 0, rfl, (hw'.item (rdI b8 (fullB 97)) (.head _)).1.1⟩)) ?_
    refine d_opg 29 ⟨by kernel_rfl, by decide⟩ rfl rfl (o_ct rfl (by kernel_rfl) rfl (fun w1 hw1 => full_calls 97 w1)) (fun _ _ h => goH h) fun ⟨b9, _⟩ => ?_
    simp only [List.cons_append, List.nil_append]
    refine d_opg 30 ⟨by kernel_rfl, by decide⟩ rfl rfl (o_val rfl (v_bstr (bs := fullB 97) rfl hfl.symm rfl rfl (fun w' hw' => .inr ⟨b9, 0, rfl, (hw'.item (rdI b9 (fullB 97)) (.head _)).1.1⟩))) (fun _ _ h => goH h) fun _ => ?_
    generalize fullB 97 = T
    (repeat first | (apply d_w [35] rfl rfl rfl (by kernel_rfl) (fun _ h => by first | exact h | exact Hp.sub h (.cons _ (.refl _)) | exact Hp.sub h (.cons _ (.cons _ (.refl _))) | exact Hp.sub h (.cons _ (.cons _ (.cons _ (.refl _)))) | exact Hp.sub h (.cons _ (.cons _ (.cons _ (.cons _ (.refl _))))) | exact Hp.sub h (.cons _ (.cons _ (.cons _ (.cons _ (.cons _ (.refl _)))))) | exact Hp.sub h (.cons _ (.cons _ (.cons _ (.cons _ (.cons _ (.cons _ (.refl _))))))) | exact Hp.sub h (.cons_cons _ (.cons_cons _ (List.nil_sublist _))) | exact Hp.sub h (.cons _ (.cons_cons _ (.cons_cons _ (List.nil_sublist _))))); focus (first | exact v_move rfl | exact v_assign rfl | exact v_bt rfl rfl | exact v_extract rfl rfl | exact v_field0 rfl rfl | exact v_field rfl rfl | exact v_lens rfl rfl | exact v_lenstr rfl rfl | exact v_nt rfl | exact v_load1p rfl rfl (by repeat first | exact .head _ | apply List.Mem.tail) | exact v_loadn rfl rfl (by repeat first | exact .head _ | apply List.Mem.tail) rfl | exact v_loadp rfl rfl (by repeat first | exact .head _ | apply List.Mem.tail) rfl | exact v_loada rfl rfl (by repeat first | exact .head _ | apply List.Mem.tail) | exact v_eqb rfl rfl rfl | exact v_slA rfl rfl rfl | exact v_builds rfl rfl rfl rfl rfl | exact v_eqs rfl rfl | exact v_nc rfl | exact v_caps rfl rfl | exact v_eqpn rfl rfl rfl | exact v_nepn rfl rfl rfl | exact v_neps rfl rfl rfl rfl | ((first | refine v_bn rfl rfl ?_ | refine v_is1 rfl rfl rfl ?_ | refine v_ia1 rfl rfl rfl ?_ | refine v_sa rfl rfl rfl ?_ | refine v_sF rfl rfl rfl ?_ | refine v_sT rfl rfl rfl ?_ | refine v_sFT rfl rfl rfl rfl ?_ | refine v_lF rfl rfl rfl rfl ?_ | refine v_is rfl rfl rfl ?_ | refine v_ia rfl rfl rfl ?_ | refine v_lT rfl rfl rfl rfl ?_ | refine v_cv rfl rfl rfl ?_ | refine v_slLH rfl rfl rfl rfl rfl ?_ | refine v_sl3 rfl rfl rfl rfl rfl ?_); first | omega | assumption) | exact v_pT rfl rfl (by first | omega | assumption | (simp; done) | exact fun h => h (by assumption) | fail) | exact v_pF rfl rfl (by first | omega | assumption | (simp; done) | exact fun h => h (by assumption) | fail) | exact v_pickB rfl rfl rfl)) | refine d_no [35] rfl rfl rfl (by kernel_rfl) (fun _ h => by first | exact h | exact Hp.sub h (.cons _ (.refl _)) | exact Hp.sub h (.cons _ (.cons _ (.refl _))) | exact Hp.sub h (.cons _ (.cons _ (.cons _ (.refl _)))) | exact Hp.sub h (.cons _ (.cons _ (.cons _ (.cons _ (.refl _))))) | exact Hp.sub h (.cons _ (.cons _ (.cons _ (.cons _ (.cons _ (.refl _)))))) | exact Hp.sub h (.cons _ (.cons _ (.cons _ (.cons _ (.cons _ (.cons _ (.refl _))))))) | exact Hp.sub h (.cons_cons _ (.cons_cons _ (List.nil_sublist _))) | exact Hp.sub h (.cons _ (.cons_cons _ (.cons_cons _ (List.nil_sublist _))))) ?_ | refine d_T [35] rfl rfl rfl rfl (by first | omega | assumption | (simp; done) | exact fun h => h (by assumption) | fail) ?_ | refine d_F [35] rfl rfl rfl rfl (by first | omega | assumption | (simp; done) | exact fun h => h (by assumption) | fail) ?_)
    refine d_pick [1, 2, 3, 4, 5, 6] rfl rfl ?_
    refine d_opg 35 ⟨by kernel_rfl, by decide⟩ rfl rfl (o_cu (pre := [pgI s8 d7, dkI d7]) rfl (by kernel_rfl) rfl (pd_stable s8 d7) (fun w1 hw1 hh1 ha1 => pgusedn_calls s8 d7 hst8.siz.ok hst8.rest.live (by rw [hst8.rest.wait]; decide) hst8.dead hst8.ok (by rw [hn8]; decide) (upd (upd noU 0 true) 1 true) (by rw [hn8, hst8.pageB (by decide), k2]) (by rw [hn8]; exact hS1'.2.1) rfl w1 hh1 ha1)) (fun _ _ h => goH h) fun ⟨_, _⟩ => ?_
    rw [known_S1]
    have hst9 := hst8.page (i := 0) (by decide)
    have hb9 := pageS_b s8 d7.D 0
    have hn9 := hst9.hn
    have hnote9 : (pageS s8 d7.D 0).note = noteB := by obtain ⟨TS, h1⟩ := hst9.st; exact h1.hnote
    have hsecs9 : (pageS s8 d7.D 0).g.h.secs = 96 := by obtain ⟨TS, h1⟩ := hst9.st; exact h1.hsecs
    generalize pageS s8 d7.D 0 = s9 at hst9 hb9 hn9 hnote9 hsecs9 ⊢
    rw [← hb9]
    simp only [List.cons_append, List.nil_append]
    (repeat first | (apply d_w [40] rfl rfl rfl (by kernel_rfl) (fun _ h => by first | exact h | exact Hp.sub h (.cons _ (.refl _)) | exact Hp.sub h (.cons _ (.cons _ (.refl _))) | exact Hp.sub h (.cons _ (.cons _ (.cons _ (.refl _)))) | exact Hp.sub h (.cons _ (.cons _ (.cons _ (.cons _ (.refl _))))) | exact Hp.sub h (.cons _ (.cons _ (.cons _ (.cons _ (.cons _ (.refl _)))))) | exact Hp.sub h (.cons _ (.cons _ (.cons _ (.cons _ (.cons _ (.cons _ (.refl _))))))) | exact Hp.sub h (.cons_cons _ (.cons_cons _ (List.nil_sublist _))) | exact Hp.sub h (.cons _ (.cons_cons _ (.cons_cons _ (List.nil_sublist _))))); focus (first | exact v_move rfl | exact v_assign rfl | exact v_bt rfl rfl | exact v_extract rfl rfl | exact v_field0 rfl rfl | exact v_field rfl rfl | exact v_lens rfl rfl | exact v_lenstr rfl rfl | exact v_nt rfl | exact v_load1p rfl rfl (by repeat first | exact .head _ | apply List.Mem.tail) | exact v_loadn rfl rfl (by repeat first | exact .head _ | apply List.Mem.tail) rfl | exact v_loadp rfl rfl (by repeat first | exact .head _ | apply List.Mem.tail) rfl | exact v_loada rfl rfl (by repeat first | exact .head _ | apply List.Mem.tail) | exact v_eqb rfl rfl rfl | exact v_slA rfl rfl rfl | exact v_builds rfl rfl rfl rfl rfl | exact v_eqs rfl rfl | exact v_nc rfl | exact v_caps rfl rfl | exact v_eqpn rfl rfl rfl | exact v_nepn rfl rfl rfl | exact v_neps rfl rfl rfl rfl | ((first | refine v_bn rfl rfl ?_ | refine v_is1 rfl rfl rfl ?_ | refine v_ia1 rfl rfl rfl ?_ | refine v_sa rfl rfl rfl ?_ | refine v_sF rfl rfl rfl ?_ | refine v_sT rfl rfl rfl ?_ | refine v_sFT rfl rfl rfl rfl ?_ | refine v_lF rfl rfl rfl rfl ?_ | refine v_is rfl rfl rfl ?_ | refine v_ia rfl rfl rfl ?_ | refine v_lT rfl rfl rfl rfl ?_ | refine v_cv rfl rfl rfl ?_ | refine v_slLH rfl rfl rfl rfl rfl ?_ | refine v_sl3 rfl rfl rfl rfl rfl ?_); first | omega | assumption) | exact v_pT rfl rfl (by first | omega | assumption | (simp; done) | exact fun h => h (by assumption) | fail) | exact v_pF rfl rfl (by first | omega | assumption | (simp; done) | exact fun h => h (by assumption) | fail) | exact v_pickB rfl rfl rfl)) | refine d_no [40] rfl rfl rfl (by kernel_rfl) (fun _ h => by first | exact h | exact Hp.sub h (.cons _ (.refl _)) | exact Hp.sub h (.cons _ (.cons _ (.refl _))) | exact Hp.sub h (.cons _ (.cons _ (.cons _ (.refl _)))) | exact Hp.sub h (.cons _ (.cons _ (.cons _ (.cons _ (.refl _))))) | exact Hp.sub h (.cons _ (.cons _ (.cons _ (.cons _ (.cons _ (.refl _)))))) | exact Hp.sub h (.cons _ (.cons _ (.cons _ (.cons _ (.cons _ (.cons _ (.refl _))))))) | exact Hp.sub h (.cons_cons _ (.cons_cons _ (List.nil_sublist _))) | exact Hp.sub h (.cons _ (.cons_cons _ (.cons_cons _ (List.nil_sublist _))))) ?_ | refine d_T [40] rfl rfl rfl rfl (by first | omega | assumption | (simp; done) | exact fun h => h (by assumption) | fail) ?_ | refine d_F [40] rfl rfl rfl rfl (by first | omega | assumption | (simp; done) | exact fun h => h (by assumption) | fail) ?_)
    refine d_opg 40 ⟨by kernel_rfl, by decide⟩ rfl rfl (o_pure rfl (by kernel_rfl) rfl (fun w1 hw1 => pgnote_calls s9 d7 w1 (Here.of (hw1.item (pgI s9 d7) (by repeat first | exact .head _ | apply List.Mem.tail)) (pgI_stable s9 d7)))) (fun _ _ h => goH h) fun _ => ?_
    rw [hnote9, show (⟨noteB.toArray⟩ : ByteArray) = ⟨#[110, 111, 116, 101]⟩ from rfl]
    (repeat first | (apply d_w [45] rfl rfl rfl (by kernel_rfl) (fun _ h => by first | exact h | exact Hp.sub h (.cons _ (.refl _)) | exact Hp.sub h (.cons _ (.cons _ (.refl _))) | exact Hp.sub h (.cons _ (.cons _ (.cons _ (.refl _)))) | exact Hp.sub h (.cons _ (.cons _ (.cons _ (.cons _ (.refl _))))) | exact Hp.sub h (.cons _ (.cons _ (.cons _ (.cons _ (.cons _ (.refl _)))))) | exact Hp.sub h (.cons _ (.cons _ (.cons _ (.cons _ (.cons _ (.cons _ (.refl _))))))) | exact Hp.sub h (.cons_cons _ (.cons_cons _ (List.nil_sublist _))) | exact Hp.sub h (.cons _ (.cons_cons _ (.cons_cons _ (List.nil_sublist _))))); focus (first | exact v_move rfl | exact v_assign rfl | exact v_bt rfl rfl | exact v_extract rfl rfl | exact v_field0 rfl rfl | exact v_field rfl rfl | exact v_lens rfl rfl | exact v_lenstr rfl rfl | exact v_nt rfl | exact v_load1p rfl rfl (by repeat first | exact .head _ | apply List.Mem.tail) | exact v_loadn rfl rfl (by repeat first | exact .head _ | apply List.Mem.tail) rfl | exact v_loadp rfl rfl (by repeat first | exact .head _ | apply List.Mem.tail) rfl | exact v_loada rfl rfl (by repeat first | exact .head _ | apply List.Mem.tail) | exact v_eqb rfl rfl rfl | exact v_slA rfl rfl rfl | exact v_builds rfl rfl rfl rfl rfl | exact v_eqs rfl rfl | exact v_nc rfl | exact v_caps rfl rfl | exact v_eqpn rfl rfl rfl | exact v_nepn rfl rfl rfl | exact v_neps rfl rfl rfl rfl | ((first | refine v_bn rfl rfl ?_ | refine v_is1 rfl rfl rfl ?_ | refine v_ia1 rfl rfl rfl ?_ | refine v_sa rfl rfl rfl ?_ | refine v_sF rfl rfl rfl ?_ | refine v_sT rfl rfl rfl ?_ | refine v_sFT rfl rfl rfl rfl ?_ | refine v_lF rfl rfl rfl rfl ?_ | refine v_is rfl rfl rfl ?_ | refine v_ia rfl rfl rfl ?_ | refine v_lT rfl rfl rfl rfl ?_ | refine v_cv rfl rfl rfl ?_ | refine v_slLH rfl rfl rfl rfl rfl ?_ | refine v_sl3 rfl rfl rfl rfl rfl ?_); first | omega | assumption) | exact v_pT rfl rfl (by first | omega | assumption | (simp; done) | exact fun h => h (by assumption) | fail) | exact v_pF rfl rfl (by first | omega | assumption | (simp; done) | exact fun h => h (by assumption) | fail) | exact v_pickB rfl rfl rfl)) | refine d_no [45] rfl rfl rfl (by kernel_rfl) (fun _ h => by first | exact h | exact Hp.sub h (.cons _ (.refl _)) | exact Hp.sub h (.cons _ (.cons _ (.refl _))) | exact Hp.sub h (.cons _ (.cons _ (.cons _ (.refl _)))) | exact Hp.sub h (.cons _ (.cons _ (.cons _ (.cons _ (.refl _))))) | exact Hp.sub h (.cons _ (.cons _ (.cons _ (.cons _ (.cons _ (.refl _)))))) | exact Hp.sub h (.cons _ (.cons _ (.cons _ (.cons _ (.cons _ (.cons _ (.refl _))))))) | exact Hp.sub h (.cons_cons _ (.cons_cons _ (List.nil_sublist _))) | exact Hp.sub h (.cons _ (.cons_cons _ (.cons_cons _ (List.nil_sublist _))))) ?_ | refine d_T [45] rfl rfl rfl rfl (by first | omega | assumption | (simp; done) | exact fun h => h (by assumption) | fail) ?_ | refine d_F [45] rfl rfl rfl rfl (by first | omega | assumption | (simp; done) | exact fun h => h (by assumption) | fail) ?_)
    refine d_opg 45 ⟨by kernel_rfl, by decide⟩ rfl rfl (o_pure rfl (by kernel_rfl) rfl (fun w1 hw1 => pgpages_calls s9 d7 w1 (Here.of (hw1.item (pgI s9 d7) (by repeat first | exact .head _ | apply List.Mem.tail)) (pgI_stable s9 d7)))) (fun _ _ h => goH h) fun _ => ?_
    rw [hn9]
    (repeat first | (apply d_w [50] rfl rfl rfl (by kernel_rfl) (fun _ h => by first | exact h | exact Hp.sub h (.cons _ (.refl _)) | exact Hp.sub h (.cons _ (.cons _ (.refl _))) | exact Hp.sub h (.cons _ (.cons _ (.cons _ (.refl _)))) | exact Hp.sub h (.cons _ (.cons _ (.cons _ (.cons _ (.refl _))))) | exact Hp.sub h (.cons _ (.cons _ (.cons _ (.cons _ (.cons _ (.refl _)))))) | exact Hp.sub h (.cons _ (.cons _ (.cons _ (.cons _ (.cons _ (.cons _ (.refl _))))))) | exact Hp.sub h (.cons_cons _ (.cons_cons _ (List.nil_sublist _))) | exact Hp.sub h (.cons _ (.cons_cons _ (.cons_cons _ (List.nil_sublist _))))); focus (first | exact v_move rfl | exact v_assign rfl | exact v_bt rfl rfl | exact v_extract rfl rfl | exact v_field0 rfl rfl | exact v_field rfl rfl | exact v_lens rfl rfl | exact v_lenstr rfl rfl | exact v_nt rfl | exact v_load1p rfl rfl (by repeat first | exact .head _ | apply List.Mem.tail) | exact v_loadn rfl rfl (by repeat first | exact .head _ | apply List.Mem.tail) rfl | exact v_loadp rfl rfl (by repeat first | exact .head _ | apply List.Mem.tail) rfl | exact v_loada rfl rfl (by repeat first | exact .head _ | apply List.Mem.tail) | exact v_eqb rfl rfl rfl | exact v_slA rfl rfl rfl | exact v_builds rfl rfl rfl rfl rfl | exact v_eqs rfl rfl | exact v_nc rfl | exact v_caps rfl rfl | exact v_eqpn rfl rfl rfl | exact v_nepn rfl rfl rfl | exact v_neps rfl rfl rfl rfl | ((first | refine v_bn rfl rfl ?_ | refine v_is1 rfl rfl rfl ?_ | refine v_ia1 rfl rfl rfl ?_ | refine v_sa rfl rfl rfl ?_ | refine v_sF rfl rfl rfl ?_ | refine v_sT rfl rfl rfl ?_ | refine v_sFT rfl rfl rfl rfl ?_ | refine v_lF rfl rfl rfl rfl ?_ | refine v_is rfl rfl rfl ?_ | refine v_ia rfl rfl rfl ?_ | refine v_lT rfl rfl rfl rfl ?_ | refine v_cv rfl rfl rfl ?_ | refine v_slLH rfl rfl rfl rfl rfl ?_ | refine v_sl3 rfl rfl rfl rfl rfl ?_); first | omega | assumption) | exact v_pT rfl rfl (by first | omega | assumption | (simp; done) | exact fun h => h (by assumption) | fail) | exact v_pF rfl rfl (by first | omega | assumption | (simp; done) | exact fun h => h (by assumption) | fail) | exact v_pickB rfl rfl rfl)) | refine d_no [50] rfl rfl rfl (by kernel_rfl) (fun _ h => by first | exact h | exact Hp.sub h (.cons _ (.refl _)) | exact Hp.sub h (.cons _ (.cons _ (.refl _))) | exact Hp.sub h (.cons _ (.cons _ (.cons _ (.refl _)))) | exact Hp.sub h (.cons _ (.cons _ (.cons _ (.cons _ (.refl _))))) | exact Hp.sub h (.cons _ (.cons _ (.cons _ (.cons _ (.cons _ (.refl _)))))) | exact Hp.sub h (.cons _ (.cons _ (.cons _ (.cons _ (.cons _ (.cons _ (.refl _))))))) | exact Hp.sub h (.cons_cons _ (.cons_cons _ (List.nil_sublist _))) | exact Hp.sub h (.cons _ (.cons_cons _ (.cons_cons _ (List.nil_sublist _))))) ?_ | refine d_T [50] rfl rfl rfl rfl (by first | omega | assumption | (simp; done) | exact fun h => h (by assumption) | fail) ?_ | refine d_F [50] rfl rfl rfl rfl (by first | omega | assumption | (simp; done) | exact fun h => h (by assumption) | fail) ?_)
    refine d_opg 50 ⟨by kernel_rfl, by decide⟩ rfl rfl (o_pure rfl (by kernel_rfl) rfl (fun w1 hw1 => pgbehind_calls s9 d7 (by omega) (by omega) w1 (Here.of (hw1.item (pgI s9 d7) (by repeat first | exact .head _ | apply List.Mem.tail)) (pgI_stable s9 d7)))) (fun _ _ h => goH h) fun _ => ?_
    rw [hn9, hsecs9]
    (repeat first | (apply d_w [55] rfl rfl rfl (by kernel_rfl) (fun _ h => by first | exact h | exact Hp.sub h (.cons _ (.refl _)) | exact Hp.sub h (.cons _ (.cons _ (.refl _))) | exact Hp.sub h (.cons _ (.cons _ (.cons _ (.refl _)))) | exact Hp.sub h (.cons _ (.cons _ (.cons _ (.cons _ (.refl _))))) | exact Hp.sub h (.cons _ (.cons _ (.cons _ (.cons _ (.cons _ (.refl _)))))) | exact Hp.sub h (.cons _ (.cons _ (.cons _ (.cons _ (.cons _ (.cons _ (.refl _))))))) | exact Hp.sub h (.cons_cons _ (.cons_cons _ (List.nil_sublist _))) | exact Hp.sub h (.cons _ (.cons_cons _ (.cons_cons _ (List.nil_sublist _))))); focus (first | exact v_move rfl | exact v_assign rfl | exact v_bt rfl rfl | exact v_extract rfl rfl | exact v_field0 rfl rfl | exact v_field rfl rfl | exact v_lens rfl rfl | exact v_lenstr rfl rfl | exact v_nt rfl | exact v_load1p rfl rfl (by repeat first | exact .head _ | apply List.Mem.tail) | exact v_loadn rfl rfl (by repeat first | exact .head _ | apply List.Mem.tail) rfl | exact v_loadp rfl rfl (by repeat first | exact .head _ | apply List.Mem.tail) rfl | exact v_loada rfl rfl (by repeat first | exact .head _ | apply List.Mem.tail) | exact v_eqb rfl rfl rfl | exact v_slA rfl rfl rfl | exact v_builds rfl rfl rfl rfl rfl | exact v_eqs rfl rfl | exact v_nc rfl | exact v_caps rfl rfl | exact v_eqpn rfl rfl rfl | exact v_nepn rfl rfl rfl | exact v_neps rfl rfl rfl rfl | ((first | refine v_bn rfl rfl ?_ | refine v_is1 rfl rfl rfl ?_ | refine v_ia1 rfl rfl rfl ?_ | refine v_sa rfl rfl rfl ?_ | refine v_sF rfl rfl rfl ?_ | refine v_sT rfl rfl rfl ?_ | refine v_sFT rfl rfl rfl rfl ?_ | refine v_lF rfl rfl rfl rfl ?_ | refine v_is rfl rfl rfl ?_ | refine v_ia rfl rfl rfl ?_ | refine v_lT rfl rfl rfl rfl ?_ | refine v_cv rfl rfl rfl ?_ | refine v_slLH rfl rfl rfl rfl rfl ?_ | refine v_sl3 rfl rfl rfl rfl rfl ?_); first | omega | assumption) | exact v_pT rfl rfl (by first | omega | assumption | (simp; done) | exact fun h => h (by assumption) | fail) | exact v_pF rfl rfl (by first | omega | assumption | (simp; done) | exact fun h => h (by assumption) | fail) | exact v_pickB rfl rfl rfl)) | refine d_no [55] rfl rfl rfl (by kernel_rfl) (fun _ h => by first | exact h | exact Hp.sub h (.cons _ (.refl _)) | exact Hp.sub h (.cons _ (.cons _ (.refl _))) | exact Hp.sub h (.cons _ (.cons _ (.cons _ (.refl _)))) | exact Hp.sub h (.cons _ (.cons _ (.cons _ (.cons _ (.refl _))))) | exact Hp.sub h (.cons _ (.cons _ (.cons _ (.cons _ (.cons _ (.refl _)))))) | exact Hp.sub h (.cons _ (.cons _ (.cons _ (.cons _ (.cons _ (.cons _ (.refl _))))))) | exact Hp.sub h (.cons_cons _ (.cons_cons _ (List.nil_sublist _))) | exact Hp.sub h (.cons _ (.cons_cons _ (.cons_cons _ (List.nil_sublist _))))) ?_ | refine d_T [55] rfl rfl rfl rfl (by first | omega | assumption | (simp; done) | exact fun h => h (by assumption) | fail) ?_ | refine d_F [55] rfl rfl rfl rfl (by first | omega | assumption | (simp; done) | exact fun h => h (by assumption) | fail) ?_)
    refine d_opg 55 ⟨by kernel_rfl, by decide⟩ rfl rfl (o_pure rfl (by kernel_rfl) rfl (fun w1 hw1 => pgdisk_calls s9 d7 w1 (Here.of (hw1.item (pgI s9 d7) (by repeat first | exact .head _ | apply List.Mem.tail)) (pgI_stable s9 d7)))) (fun _ _ h => goH h) fun _ => ?_
    refine goE ?_
    refine d_v [] rfl rfl (by kernel_rfl) (fun _ h => by first | exact h | exact Hp.sub h (.cons _ (.refl _)) | exact Hp.sub h (.cons _ (.cons _ (.refl _))) | exact Hp.sub h (.cons _ (.cons _ (.cons _ (.refl _)))) | exact Hp.sub h (.cons _ (.cons _ (.cons _ (.cons _ (.refl _))))) | exact Hp.sub h (.cons _ (.cons _ (.cons _ (.cons _ (.cons _ (.refl _)))))) | exact Hp.sub h (.cons _ (.cons _ (.cons _ (.cons _ (.cons _ (.cons _ (.refl _))))))) | exact Hp.sub h (.cons_cons _ (.cons_cons _ (List.nil_sublist _))) | exact Hp.sub h (.cons _ (.cons_cons _ (.cons_cons _ (List.nil_sublist _))))) rfl rfl (v_eqps rfl rfl rfl rfl) ?_
    refine goE ?_
    refine d_end (by kernel_rfl) ?_
    refine goA ?_
    exact x_ct () rfl rfl rfl trivial (.cons _ (.cons _ (.cons _ (.cons_cons _ (.cons _ (.refl _)))))) ct_tz_stable
end Go.Proofs.YtplhamichcnmmaaGreatDoor
