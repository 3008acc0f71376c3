/- law 8: PagesKeep. -/
import Derived.Test.YtplhamichcnmmaaGreatDoorHc47
namespace Go.Eng
open Go.RowKit
theorem l_share1 {P : Program} {Q : Exit → Act → World → Prop} {N : Fm} {w0 : World} {F : Nat → Prop} {ops : Array Oper} {rest : List Oper} {G : Prop} (L : Slots) (M : List Item)
    (k : HL P ops Q N rest L (Hp w0 F M)) (h : (∀ l', Has l' L → HL P ops Q N rest l' (Hp w0 F M)) → G) : G :=
  h fun l' hl => by
    unfold HL at k ⊢
    exact fun a w s hw => k a w ⟨s.size, s.defers, fun t v hv => s.slot t v (get_has hl hv)⟩ hw
end Go.Eng
namespace Go.Proofs.YtplhamichcnmmaaGreatDoor
open Go.RowKit Go.Eng Go.Eng.Bm
set_option maxRecDepth 100000
set_option maxHeartbeats 40000000
theorem fuse_bad (d : Dk) (N : Int) (hN : N < 0) (keep : Bys) (w : World) (h : Here (dkI d) w) : Pu Tryz.prog 27 #[.pointer (some ⟨d.b, 0, none⟩), .int .i64 N, .string ⟨keep.toArray⟩] w (.int .i64 2) := by
  refine pu_of [_, _, _] Tryz.func27 rfl rfl ?_
  simp only [argSlots, Nat.reduceAdd]
  refine goA ?_
  refine l_opg rfl (o_pure rfl (by kernel_rfl) rfl (fun w1 hw1 => there_calls d.b w1)) fun _ => ?_
  refine goA ?_
  refine l_say 11 _ (.bool false) rfl (congrArg Value.bool (decide_eq_false (by omega))) ?_
  refine l_opg rfl (o_pure rfl (by kernel_rfl) rfl (fun w1 hw1 => unless_calls false 2 w1)) fun _ => ?_
  rw [if_neg Bool.false_ne_true]
  refine l_op rfl (o_buildslice rfl rfl rfl rfl rfl rfl) fun ⟨bq, hbq⟩ => ?_
  refine l_opg rfl (o_pure rfl (by kernel_rfl) rfl (fun w1 hw1 => first_calls [0, 2] (some ⟨bq, 0, none⟩) 2 (by simp) w1 (own_Rd (o := some (bq, 2)) (hw1.item _ (.head _)).1))) fun _ => ?_
  rw [show firstE [0, 2] = 2 from rfl]
  refine goA ?_
  exact x_pu rfl rfl rfl
theorem StX.fuse {s : Pg} {D : Dsk} {n secs : Nat} {note : Bys} {V : List Bys} {C : PR} {B : Nat} (h : StX s D n secs note V C B) {m : Nat} (hm : m ≤ 9223372036854775807) {keep : Bys} (hk : keep.length ≤ 1000000) : StX s (fuseF D m keep) n secs note V C B := by
  obtain ⟨TS, h1⟩ := h.st
  exact ⟨⟨TS, h1.fuse hm keep⟩, h.eC, h.hCn, hk, h.p0, h.c0⟩
theorem StX.crash {s : Pg} {D : Dsk} {n secs : Nat} {note : Bys} {V : List Bys} {C : PR} {B : Nat} (h : StX s D n secs note V C B) (hB : B < 9223372036854775808) (keep : Bys) : Off (crashG D keep).2 n secs note V B := by
  obtain ⟨TS, h1⟩ := h.st
  exact (h1.crash hB keep).2
theorem offm_stable (log : Nat) (x : Lw) (o : Nat × Nat) (M : List My) : ∀ it ∈ offL log x ++ [myI o M], it.Stable none' := by
  intro it hm
  rcases List.mem_append.1 hm with hm | hm
  · exact off_stable log x it hm
  · rcases hm with _ | ⟨_, hm⟩
    · exact own_stable _ _ _ _ _ _
    · cases hm
theorem keep_calls (log : Nat) (hl8 : log < 256) (L : List AcT) (a : Option Addr) (c : Nat) (hln : L.length ≤ 9223372036854775807) (hz : ∀ x ∈ L, x.keep.length ≤ 9223372036854775807) (hNs : ∀ x ∈ L, x.N < 9223372036854775808) (w : World) (hr : Rd w a (rowsV AcT.vs L)) (hap : ∀ b off, a = some ⟨b, off, none⟩ → L ≠ [] → ¬ foots [ctI, tzI] b) (hw : ∀ it ∈ [ctI, tzI], Here it w) (ha : [ctI, tzI].Pairwise Eng.Item.Apart) :
    Ct Tryz.prog 5 #[.int .u8 (log : Int), .slice a L.length c] w (foots [ctI, tzI]) (fun _ : Unit => .bool true) (fun _ => True) (fun _ => [ctI, tzI]) := by
  refine cu_of [_, _] _ Tryz.func5 rfl rfl hw ha ?_
  simp only [argSlots, Nat.reduceAdd]
  refine goA ?_
  refine l_opg rfl (o_pure rfl (by kernel_rfl) rfl (fun w1 hw1 => great_calls L a c hln hz w1 (rd_keepF hr hap hw1))) fun _ => ?_
  cases hgr : greatB L with
  | true =>
    refine goA ?_
    refine l_opg rfl (o_cu (pre := [ctI, tzI]) rfl (by kernel_rfl) rfl ct_tz_stable (fun w1 hw1 hh1 ha1 => wakes_calls w1 hh1 ha1)) fun ⟨_, _⟩ => ?_
    refine goA ?_
    exact x_ct () rfl rfl rfl trivial (.refl _) ct_tz_stable
  | false =>
    by_cases h96 : log < 96
    · refine goA ?_
      refine l_opg rfl (o_cu (pre := [ctI, tzI]) rfl (by kernel_rfl) rfl ct_tz_stable (fun w1 hw1 hh1 ha1 => wakes_calls w1 hh1 ha1)) fun ⟨_, _⟩ => ?_
      refine goA ?_
      exact x_ct () rfl rfl rfl trivial (.refl _) ct_tz_stable
    · by_cases h150 : 150 < log
      · refine goA ?_
        refine l_opg rfl (o_cu (pre := [ctI, tzI]) rfl (by kernel_rfl) rfl ct_tz_stable (fun w1 hw1 hh1 ha1 => wakes_calls w1 hh1 ha1)) fun ⟨_, _⟩ => ?_
        refine goA ?_
        exact x_ct () rfl rfl rfl trivial (.refl _) ct_tz_stable
      · obtain ⟨h60, hkp⟩ := great_no hgr
        refine goA ?_
        refine l_opg rfl (o_cu (pre := [ctI]) rfl (by kernel_rfl) rfl ct1_stable (fun w1 hw1 hh1 ha1 => begins_calls log (by omega) (by omega) w1 hh1)) fun ⟨x, hx⟩ => ?_
        obtain ⟨hok, -, -, -⟩ := hx
        simp only [List.cons_append, List.nil_append]
        refine goA ?_
        refine t_for (α := Nat × Lw) (fun y => [(1, .slice a L.length c), (5, .pointer (some ⟨x.xb, 0, none⟩)), (7, .int .i64 y.1)]) (fun y => y.1 ≤ L.length ∧ LwOk y.2 log (2 + 700 * y.1) ∧ y.2.xb = x.xb) (fun y => lwL log y.2) (fun y => L.length - y.1) (0, x) ⟨rfl, rfl, rfl, trivial⟩ ⟨Nat.zero_le _, hok, rfl⟩ (fun w' hw' => hw'.pick [0, 1, 2, 3, 5, 4] rfl rfl) fun ⟨i, y⟩ ⟨hi, hyo, hyb⟩ => ?_
        dsimp only at hi hyo hyb ⊢
        rw [← hyb]
        clear hok
        have hyo0 := hyo
        obtain ⟨hst, ar, hl1, hl2, hB⟩ := hyo
        obtain ⟨xb, s, d, pv, cv, pm, V, C, A⟩ := y
        dsimp only at hst ar hyb ⊢
        unfold lwL lwC
        dsimp only
        by_cases hil : i < L.length
        · obtain ⟨b, off, rfl, hri⟩ := act_row hr hil
          have hF := hap b off rfl (fun h => by subst h; exact absurd hil (Nat.not_lt_zero _))
          have hk100 := hkp _ (List.getElem_mem hil)
          have hN63 := hNs _ (List.getElem_mem hil)
          generalize L[i] = t at hri hk100 hN63
          refine goA ?_
          refine l_w rfl (v_loadcE (xs := t.vs) (c := actA t.k t.N t.c t.keep) rfl rfl (fun w' hw' => rangeAt_old hri hF hw') rfl) ?_
          refine l_alloca rfl rfl fun b8 hb8 => ?_
          refine l_op rfl (o_storea (cs' := actA t.k t.N t.c t.keep) rfl rfl rfl rfl rfl rfl) fun _ => ?_
          refine goA ?_
          refine l_w rfl (v_lw rfl (by repeat first | exact .head _ | apply List.Mem.tail)) ?_
          refine l_alloca rfl rfl fun b9 hb9 => ?_
          refine l_op rfl (o_storea (cs' := #[.slice (some ⟨pv, 0, none⟩) V.length cv, .map (some pm)]) rfl rfl rfl rfl rfl rfl) fun _ => ?_
          refine goA ?_
          by_cases h6 : t.k = 6
          · rw [h6]
            refine goA ?_
            by_cases hN : t.N < 0
            · refine t_drawm [0, 1, 2, 3, 4, 5, 6, 7] 9 rfl rfl (by kernel_rfl) ?_
              (repeat first | (apply d_w [8] rfl rfl rfl (by kernel_rfl) (fun _ h => by first | exact h | exact Hp.sub h (.cons _ (.refl _)) | exact Hp.sub h (.cons _ (.cons _ (.refl _))) | exact Hp.sub h (.cons _ (.cons _ (.cons _ (.refl _)))) | exact Hp.sub h (.cons _ (.cons _ (.cons _ (.cons _ (.refl _))))) | exact Hp.sub h (.cons _ (.cons _ (.cons _ (.cons _ (.cons _ (.refl _)))))) | exact Hp.sub h (.cons _ (.cons _ (.cons _ (.cons _ (.cons _ (.cons _ (.refl _))))))) | exact Hp.sub h (.cons_cons _ (.cons_cons _ (List.nil_sublist _))) | exact Hp.sub h (.cons _ (.cons_cons _ (.cons_cons _ (List.nil_sublist _))))); focus (first | exact v_move rfl | exact v_assign rfl | exact v_bt rfl rfl | exact v_extract rfl rfl | exact v_field0 rfl rfl | exact v_field rfl rfl | exact v_lens rfl rfl | exact v_lenstr rfl rfl | exact v_nt rfl | exact v_load1p rfl rfl (by repeat first | exact .head _ | apply List.Mem.tail) | exact v_loadn rfl rfl (by repeat first | exact .head _ | apply List.Mem.tail) rfl | exact v_loadp rfl rfl (by repeat first | exact .head _ | apply List.Mem.tail) rfl | exact v_loada rfl rfl (by repeat first | exact .head _ | apply List.Mem.tail) | exact v_eqb rfl rfl rfl | exact v_slA rfl rfl rfl | exact v_builds rfl rfl rfl rfl rfl | exact v_eqs rfl rfl | exact v_nc rfl | exact v_caps rfl rfl | exact v_eqpn rfl rfl rfl | exact v_nepn rfl rfl rfl | exact v_neps rfl rfl rfl rfl | ((first | refine v_bn rfl rfl ?_ | refine v_is1 rfl rfl rfl ?_ | refine v_ia1 rfl rfl rfl ?_ | refine v_sa rfl rfl rfl ?_ | refine v_sF rfl rfl rfl ?_ | refine v_sT rfl rfl rfl ?_ | refine v_sFT rfl rfl rfl rfl ?_ | refine v_lF rfl rfl rfl rfl ?_ | refine v_is rfl rfl rfl ?_ | refine v_ia rfl rfl rfl ?_ | refine v_lT rfl rfl rfl rfl ?_ | refine v_cv rfl rfl rfl ?_ | refine v_slLH rfl rfl rfl rfl rfl ?_ | refine v_sl3 rfl rfl rfl rfl rfl ?_); first | omega | assumption) | exact v_pT rfl rfl (by first | omega | assumption | (simp; done) | exact fun h => h (by assumption) | fail) | exact v_pF rfl rfl (by first | omega | assumption | (simp; done) | exact fun h => h (by assumption) | fail) | exact v_pickB rfl rfl rfl)) | refine d_no [8] rfl rfl rfl (by kernel_rfl) (fun _ h => by first | exact h | exact Hp.sub h (.cons _ (.refl _)) | exact Hp.sub h (.cons _ (.cons _ (.refl _))) | exact Hp.sub h (.cons _ (.cons _ (.cons _ (.refl _)))) | exact Hp.sub h (.cons _ (.cons _ (.cons _ (.cons _ (.refl _))))) | exact Hp.sub h (.cons _ (.cons _ (.cons _ (.cons _ (.cons _ (.refl _)))))) | exact Hp.sub h (.cons _ (.cons _ (.cons _ (.cons _ (.cons _ (.cons _ (.refl _))))))) | exact Hp.sub h (.cons_cons _ (.cons_cons _ (List.nil_sublist _))) | exact Hp.sub h (.cons _ (.cons_cons _ (.cons_cons _ (List.nil_sublist _))))) ?_ | refine d_T [8] rfl rfl rfl rfl (by first | omega | assumption | (simp; done) | exact fun h => h (by assumption) | fail) ?_ | refine d_F [8] rfl rfl rfl rfl (by first | omega | assumption | (simp; done) | exact fun h => h (by assumption) | fail) ?_)
              refine d_opg 8 ⟨by kernel_rfl, by decide⟩ rfl rfl (o_pure rfl (by kernel_rfl) rfl (fun w1 hw1 => fuse_bad d t.N hN t.keep w1 (Here.of (hw1.item (dkI d) (by repeat first | exact .head _ | apply List.Mem.tail)) (bundle_stable _)))) (fun _ _ h => goH h) fun _ => ?_
              refine goE ?_
              refine d_end (by kernel_rfl) ?_
              refine goA ?_
              exact x_round (i + 1, ⟨xb, s, d, pv, cv, pm, V, C, A⟩) ⟨rfl, rfl, rfl, trivial⟩ ⟨hil, ⟨hst.more (by omega), ar, hl1, hl2, by omega⟩, rfl⟩ (fun w' hw' => hw'.pick [2, 3, 4, 5, 6, 7] rfl rfl) (by show L.length - (i + 1) < L.length - i; omega)
            · obtain ⟨q, hq⟩ : ∃ q : Nat, t.N = q := ⟨t.N.toNat, by omega⟩
              rw [hq]
              refine t_pick [4, 0, 1, 2, 3, 5, 6, 7] rfl rfl ?_
              refine t_drawm [1, 2, 3, 4, 5, 6, 7] 9 rfl rfl (by kernel_rfl) ?_
              (repeat first | (apply d_w [8] rfl rfl rfl (by kernel_rfl) (fun _ h => by first | exact h | exact Hp.sub h (.cons _ (.refl _)) | exact Hp.sub h (.cons _ (.cons _ (.refl _))) | exact Hp.sub h (.cons _ (.cons _ (.cons _ (.refl _)))) | exact Hp.sub h (.cons _ (.cons _ (.cons _ (.cons _ (.refl _))))) | exact Hp.sub h (.cons _ (.cons _ (.cons _ (.cons _ (.cons _ (.refl _)))))) | exact Hp.sub h (.cons _ (.cons _ (.cons _ (.cons _ (.cons _ (.cons _ (.refl _))))))) | exact Hp.sub h (.cons_cons _ (.cons_cons _ (List.nil_sublist _))) | exact Hp.sub h (.cons _ (.cons_cons _ (.cons_cons _ (List.nil_sublist _))))); focus (first | exact v_move rfl | exact v_assign rfl | exact v_bt rfl rfl | exact v_extract rfl rfl | exact v_field0 rfl rfl | exact v_field rfl rfl | exact v_lens rfl rfl | exact v_lenstr rfl rfl | exact v_nt rfl | exact v_load1p rfl rfl (by repeat first | exact .head _ | apply List.Mem.tail) | exact v_loadn rfl rfl (by repeat first | exact .head _ | apply List.Mem.tail) rfl | exact v_loadp rfl rfl (by repeat first | exact .head _ | apply List.Mem.tail) rfl | exact v_loada rfl rfl (by repeat first | exact .head _ | apply List.Mem.tail) | exact v_eqb rfl rfl rfl | exact v_slA rfl rfl rfl | exact v_builds rfl rfl rfl rfl rfl | exact v_eqs rfl rfl | exact v_nc rfl | exact v_caps rfl rfl | exact v_eqpn rfl rfl rfl | exact v_nepn rfl rfl rfl | exact v_neps rfl rfl rfl rfl | ((first | refine v_bn rfl rfl ?_ | refine v_is1 rfl rfl rfl ?_ | refine v_ia1 rfl rfl rfl ?_ | refine v_sa rfl rfl rfl ?_ | refine v_sF rfl rfl rfl ?_ | refine v_sT rfl rfl rfl ?_ | refine v_sFT rfl rfl rfl rfl ?_ | refine v_lF rfl rfl rfl rfl ?_ | refine v_is rfl rfl rfl ?_ | refine v_ia rfl rfl rfl ?_ | refine v_lT rfl rfl rfl rfl ?_ | refine v_cv rfl rfl rfl ?_ | refine v_slLH rfl rfl rfl rfl rfl ?_ | refine v_sl3 rfl rfl rfl rfl rfl ?_); first | omega | assumption) | exact v_pT rfl rfl (by first | omega | assumption | (simp; done) | exact fun h => h (by assumption) | fail) | exact v_pF rfl rfl (by first | omega | assumption | (simp; done) | exact fun h => h (by assumption) | fail) | exact v_pickB rfl rfl rfl)) | refine d_no [8] rfl rfl rfl (by kernel_rfl) (fun _ h => by first | exact h | exact Hp.sub h (.cons _ (.refl _)) | exact Hp.sub h (.cons _ (.cons _ (.refl _))) | exact Hp.sub h (.cons _ (.cons _ (.cons _ (.refl _)))) | exact Hp.sub h (.cons _ (.cons _ (.cons _ (.cons _ (.refl _))))) | exact Hp.sub h (.cons _ (.cons _ (.cons _ (.cons _ (.cons _ (.refl _)))))) | exact Hp.sub h (.cons _ (.cons _ (.cons _ (.cons _ (.cons _ (.cons _ (.refl _))))))) | exact Hp.sub h (.cons_cons _ (.cons_cons _ (List.nil_sublist _))) | exact Hp.sub h (.cons _ (.cons_cons _ (.cons_cons _ (List.nil_sublist _))))) ?_ | refine d_T [8] rfl rfl rfl rfl (by first | omega | assumption | (simp; done) | exact fun h => h (by assumption) | fail) ?_ | refine d_F [8] rfl rfl rfl rfl (by first | omega | assumption | (simp; done) | exact fun h => h (by assumption) | fail) ?_)
              refine d_opg 8 ⟨by kernel_rfl, by decide⟩ rfl rfl (o_cu (pre := [dkI d]) rfl (by kernel_rfl) rfl (dk1_stable d) (fun w1 hw1 hh1 ha1 => fuse_calls d q (by omega) t.keep w1 hh1)) (fun _ _ h => goH h) fun ⟨_, _⟩ => ?_
              simp only [List.cons_append, List.nil_append]
              refine goE ?_
              refine d_end (by kernel_rfl) ?_
              refine goA ?_
              exact x_round (i + 1, ⟨xb, s, { d with D := fuseF d.D q t.keep }, pv, cv, pm, V, C, A⟩) ⟨rfl, rfl, rfl, trivial⟩ ⟨hil, ⟨(hst.fuse (by omega) (by omega)).more (by omega), ⟨ar.stable, ar.rows, ar.map⟩, hl1, hl2, by omega⟩, rfl⟩ (fun w' hw' => hw'.pick [3, 4, 0, 5, 6, 7] rfl rfl) (by show L.length - (i + 1) < L.length - i; omega)
          · by_cases h7 : t.k = 7
            · rw [h7]
              refine goA ?_
              refine t_pick [4, 0, 1, 2, 3, 5, 6, 7] rfl rfl ?_
              refine t_drawm [1, 2, 3, 4, 5, 6, 7] 7 rfl rfl (by kernel_rfl) ?_
              (repeat first | (apply d_w [6] rfl rfl rfl (by kernel_rfl) (fun _ h => by first | exact h | exact Hp.sub h (.cons _ (.refl _)) | exact Hp.sub h (.cons _ (.cons _ (.refl _))) | exact Hp.sub h (.cons _ (.cons _ (.cons _ (.refl _)))) | exact Hp.sub h (.cons _ (.cons _ (.cons _ (.cons _ (.refl _))))) | exact Hp.sub h (.cons _ (.cons _ (.cons _ (.cons _ (.cons _ (.refl _)))))) | exact Hp.sub h (.cons _ (.cons _ (.cons _ (.cons _ (.cons _ (.cons _ (.refl _))))))) | exact Hp.sub h (.cons_cons _ (.cons_cons _ (List.nil_sublist _))) | exact Hp.sub h (.cons _ (.cons_cons _ (.cons_cons _ (List.nil_sublist _))))); focus (first | exact v_move rfl | exact v_assign rfl | exact v_bt rfl rfl | exact v_extract rfl rfl | exact v_field0 rfl rfl | exact v_field rfl rfl | exact v_lens rfl rfl | exact v_lenstr rfl rfl | exact v_nt rfl | exact v_load1p rfl rfl (by repeat first | exact .head _ | apply List.Mem.tail) | exact v_loadn rfl rfl (by repeat first | exact .head _ | apply List.Mem.tail) rfl | exact v_loadp rfl rfl (by repeat first | exact .head _ | apply List.Mem.tail) rfl | exact v_loada rfl rfl (by repeat first | exact .head _ | apply List.Mem.tail) | exact v_eqb rfl rfl rfl | exact v_slA rfl rfl rfl | exact v_builds rfl rfl rfl rfl rfl | exact v_eqs rfl rfl | exact v_nc rfl | exact v_caps rfl rfl | exact v_eqpn rfl rfl rfl | exact v_nepn rfl rfl rfl | exact v_neps rfl rfl rfl rfl | ((first | refine v_bn rfl rfl ?_ | refine v_is1 rfl rfl rfl ?_ | refine v_ia1 rfl rfl rfl ?_ | refine v_sa rfl rfl rfl ?_ | refine v_sF rfl rfl rfl ?_ | refine v_sT rfl rfl rfl ?_ | refine v_sFT rfl rfl rfl rfl ?_ | refine v_lF rfl rfl rfl rfl ?_ | refine v_is rfl rfl rfl ?_ | refine v_ia rfl rfl rfl ?_ | refine v_lT rfl rfl rfl rfl ?_ | refine v_cv rfl rfl rfl ?_ | refine v_slLH rfl rfl rfl rfl rfl ?_ | refine v_sl3 rfl rfl rfl rfl rfl ?_); first | omega | assumption) | exact v_pT rfl rfl (by first | omega | assumption | (simp; done) | exact fun h => h (by assumption) | fail) | exact v_pF rfl rfl (by first | omega | assumption | (simp; done) | exact fun h => h (by assumption) | fail) | exact v_pickB rfl rfl rfl)) | refine d_no [6] rfl rfl rfl (by kernel_rfl) (fun _ h => by first | exact h | exact Hp.sub h (.cons _ (.refl _)) | exact Hp.sub h (.cons _ (.cons _ (.refl _))) | exact Hp.sub h (.cons _ (.cons _ (.cons _ (.refl _)))) | exact Hp.sub h (.cons _ (.cons _ (.cons _ (.cons _ (.refl _))))) | exact Hp.sub h (.cons _ (.cons _ (.cons _ (.cons _ (.cons _ (.refl _)))))) | exact Hp.sub h (.cons _ (.cons _ (.cons _ (.cons _ (.cons _ (.cons _ (.refl _))))))) | exact Hp.sub h (.cons_cons _ (.cons_cons _ (List.nil_sublist _))) | exact Hp.sub h (.cons _ (.cons_cons _ (.cons_cons _ (List.nil_sublist _))))) ?_ | refine d_T [6] rfl rfl rfl rfl (by first | omega | assumption | (simp; done) | exact fun h => h (by assumption) | fail) ?_ | refine d_F [6] rfl rfl rfl rfl (by first | omega | assumption | (simp; done) | exact fun h => h (by assumption) | fail) ?_)
              refine d_opg 6 ⟨by kernel_rfl, by decide⟩ rfl rfl (o_cu (pre := [dkI d]) rfl (by kernel_rfl) rfl (dk1_stable d) (fun w1 hw1 hh1 ha1 => crash_calls d hst.siz.ok t.keep (by omega) (by rw [hst.rest.wait]; decide) w1 hh1)) (fun _ _ h => goH h) fun ⟨d1, hd1⟩ => ?_
              have hoff := hst.crash (by omega) t.keep
              obtain ⟨r1, r2, r3⟩ := hd1
              rw [← r3] at hoff
              generalize (crashG d.D t.keep).1 = ce
              simp only [List.cons_append, List.nil_append]
              refine goE ?_
              refine d_end (by kernel_rfl) ?_
              rw [← r1]
              refine goA ?_
              refine l_opg rfl (o_pure rfl (by kernel_rfl) rfl (fun w1 hw1 => alive_calls d1 w1 (Here.of (hw1.item (dkI d1) (by repeat first | exact .head _ | apply List.Mem.tail)) (bundle_stable _)))) fun _ => ?_
              rw [hoff.dead]
              refine goA ?_
              refine l_ctg rfl rfl (by kernel_rfl) rfl (fun w1 hw1 => rabort_calls pv cv V pm w1) fun x hx => ?_
              simp only [List.cons_append, List.nil_append]
              refine l_op rfl (o_buildslice rfl rfl rfl rfl rfl rfl) fun ⟨bq, hbq⟩ => ?_
              refine goA ?_
              refine l_imp (m' := offL log ⟨xb, s, d1, pv, cv, pm, V, C, mC x [] :: A⟩ ++ [myI (bq, 1) [⟨pv, cv, x, V⟩]]) (fun w' hw' => ?_) ?_
              · exact (ar_add (mapN_stable _ _ _ _) ar.stable (hw'.pick [1, 9, 5, 2, 7, 8, 0] rfl rfl)).pick [1, 2, 3, 4, 0, 5] rfl rfl
              · have hstA : ∀ it ∈ mC x [] :: A, it.Stable none' := fun it hm => by
                  rcases List.mem_cons.1 hm with rfl | hm
                  · exact mapN_stable _ _ _ _
                  · exact ar.stable it hm
                refine l_opg rfl (o_cu (pre := offL log ⟨xb, s, d1, pv, cv, pm, V, C, mC x [] :: A⟩ ++ [myI (bq, 1) [⟨pv, cv, x, V⟩]]) (m := []) rfl (by kernel_rfl) rfl (offm_stable log _ _ _) (fun w1 hw1 hh1 ha1 => again_calls log ⟨xb, s, d1, pv, cv, pm, V, C, mC x [] :: A⟩ hl1 hl2 [⟨pv, cv, x, V⟩] (bq, 1) (Nat.le_succ 1) V ⟨_, .head _, rfl⟩ (fun m hm => by
                  rcases hm with _ | ⟨_, hm⟩
                  · exact ⟨.tail _ ar.rows, .head _, hst.len⟩
                  · cases hm) hstA (2 + 700 * i) (by omega) hoff hst.p0 7 t.N t.c t.keep hk100 w1 hh1 ha1)) fun ⟨z, hz⟩ => ?_
                obtain ⟨g1, g2, g3, g4⟩ := hz
                obtain ⟨zb, s4, d4, pv4, cv4, pm4, V4, C4, A4⟩ := z
                dsimp only at g1 g2 g4 ⊢
                subst g1
                rw [List.append_nil]
                refine goA ?_
                exact x_round (i + 1, ⟨zb, s4, d4, pv4, cv4, pm4, V4, C4, A4⟩) ⟨rfl, rfl, rfl, trivial⟩ ⟨hil, ⟨g4.st.more (by show 2 + 700 * i + 4 ≤ 2 + 700 * (i + 1); omega), g4.ar, hl1, hl2, by show 2 + 700 * (i + 1) ≤ _; omega⟩, rfl⟩ (fun w' hw' => hw') (by show L.length - (i + 1) < L.length - i; omega)
            · refine goA ?_
              refine l_pick [2, 3, 4, 5, 6, 7, 0, 1] rfl rfl ?_
              refine l_opg rfl (o_cu (pre := lwL log ⟨xb, s, d, pv, cv, pm, V, C, A⟩) rfl (by kernel_rfl) rfl (lw_stable log _) (fun w1 hw1 hh1 ha1 => does_calls' log ⟨xb, s, d, pv, cv, pm, V, C, A⟩ (2 + 700 * i) hyo0 (by omega) t.k t.N t.c t.keep w1 hh1 ha1)) fun ⟨⟨e, y2⟩, hy2⟩ => ?_
              dsimp only at hy2 ⊢
              rcases hy2 with ⟨rfl, hd⟩ | ⟨h3, hd⟩
              · obtain ⟨hxb2, hdb2, -, hok2, -⟩ := hd
                obtain ⟨xb2, s2, d2, pv2, cv2, pm2, V2, C2, A2⟩ := y2
                dsimp only at hxb2 hdb2 hok2 ⊢
                subst hxb2
                unfold lwL lwC
                simp only [List.cons_append, List.nil_append]
                refine goA ?_
                refine l_opg rfl (o_pure rfl (by kernel_rfl) rfl (fun w1 hw1 => alive_calls d2 w1 (Here.of (hw1.item (dkI d2) (by repeat first | exact .head _ | apply List.Mem.tail)) (bundle_stable _)))) fun _ => ?_
                rw [hok2.st.rest.live]
                refine goA ?_
                exact x_round (i + 1, ⟨xb2, s2, d2, pv2, cv2, pm2, V2, C2, A2⟩) ⟨rfl, rfl, rfl, trivial⟩ ⟨hil, ⟨hok2.st.more (by show 2 + 700 * i + 601 ≤ 2 + 700 * (i + 1); omega), hok2.ar, hl1, hl2, by show 2 + 700 * (i + 1) ≤ _; omega⟩, rfl⟩ (fun w' hw' => hw'.pick [0, 1, 2, 3, 4, 5] rfl rfl) (by show L.length - (i + 1) < L.length - i; omega)
              · obtain ⟨hxb2, hdb2, hsub2, hst2, hoff2, hlf2⟩ := hd
                obtain ⟨xb2, s2, d2, pv2, cv2, pm2, V2, C2, A2⟩ := y2
                dsimp only at hxb2 hdb2 hsub2 hst2 hoff2 ⊢
                subst hxb2
                have hdead : d2.D.dead = true := by rcases hoff2 with h | h <;> exact h.dead
                unfold lwL lwC
                simp only [List.cons_append, List.nil_append]
                refine l_share1 (P := Tryz.prog) (ops := ?o1) (Q := ?q1) (N := ?n1) (rest := ?r1) (w0 := w) (F := foots [ctI, tzI]) [(1, .slice (some ⟨b, off, none⟩) L.length c), (5, .pointer (some ⟨xb2, 0, none⟩)), (7, .int .i64 (i : Int)), (8, .pointer (some ⟨b8, 0, none⟩)), (9, .pointer (some ⟨b9, 0, none⟩)), (80, .pointer (some ⟨d2.b, 0, none⟩))]
                  [lwC log ⟨xb2, s2, d2, pv2, cv2, pm2, V2, C2, A2⟩, dkI d2, ctI, tzI, arI A2, pt b9 (.cells #[.slice (some ⟨pv, 0, none⟩) V.length cv, .map (some pm)] 39 (0, 0)), acC b8 t.k t.N t.c t.keep] ?k1 (fun hshare => ?h1)
                case h1 =>
                  cases e with
                  | true =>
                    refine goA ?_
                    refine l_pick [0, 2, 3, 4, 5, 6, 7] rfl rfl ?_
                    refine hshare _ ?_; exact ⟨rfl, rfl, rfl, rfl, rfl, rfl, trivial⟩
                  | false =>
                    refine goA ?_
                    refine l_opg rfl (o_pure rfl (by kernel_rfl) rfl (fun w1 hw1 => alive_calls d2 w1 (Here.of (hw1.item (dkI d2) (by repeat first | exact .head _ | apply List.Mem.tail)) (bundle_stable _)))) fun _ => ?_
                    rw [hdead]
                    refine goA ?_
                    refine l_pick [0, 2, 3, 4, 5, 6, 7] rfl rfl ?_
                    refine hshare _ ?_; exact ⟨rfl, rfl, rfl, rfl, rfl, rfl, trivial⟩
                case k1 =>
                  rw [h3]
                  unfold lwC
                  dsimp only
                  refine l_opg rfl (o_pure rfl (by kernel_rfl) rfl (fun w1 hw1 => alive_calls d2 w1 (Here.of (hw1.item (dkI d2) (by repeat first | exact .head _ | apply List.Mem.tail)) (bundle_stable _)))) fun _ => ?_
                  rw [hdead]
                  refine goA ?_
                  refine l_ctg rfl rfl (by kernel_rfl) rfl (fun w1 hw1 => rabort_calls pv cv V pm w1) fun x hx => ?_
                  generalize x = pmA
                  simp only [List.cons_append, List.nil_append]
                  refine l_op rfl (o_buildslice rfl rfl rfl rfl rfl rfl) fun ⟨bq, hbq⟩ => ?_
                  refine goA ?_
                  have hVl : V.length = 128 := hst.len
                  refine l_ctg rfl rfl (by kernel_rfl) rfl (fun w1 hw1 => rcommit_calls pv cv V pm C (by omega) (by have := hst.le; omega) w1 (rsI_rd (ar_here (Here.of (hw1.item (arI A2) (by repeat first | exact .head _ | apply List.Mem.tail)) (ar_stable A2)) (hsub2 _ ar.rows)).1) (ar_here (Here.of (hw1.item (arI A2) (by repeat first | exact .head _ | apply List.Mem.tail)) (ar_stable A2)) (hsub2 _ ar.map))) fun x hx => ?_
                  obtain ⟨pvN, cvN, pmN⟩ := x
                  dsimp only
                  rw [show wV pvN cvN V pmN = .agg #[.slice (some ⟨pvN, 0, none⟩) (overV V C).length cvN, .map (some pmN)] by rw [overV_len]]
                  simp only [List.cons_append, List.nil_append]
                  refine l_op rfl (o_buildslice rfl rfl rfl rfl rfl rfl) fun ⟨b2, hb2⟩ => ?_
                  refine l_op rfl (ho_perm (bring3 _ _ _ _ _) (o_append (o := some (bq, 1)) (n := 1) (k := 1) (c := 1) (a := ⟨b2, 0, none⟩) (news := My.vs ⟨pvN, cvN, pmN, overV V C⟩) rfl rfl rfl rfl rfl rfl rfl rfl (by decide) (fun w' hw' j v hj => by rw [add_at, Nat.zero_add]; exact own_rd (hw'.item (own 39 2 (some (b2, 1)) 1 (My.vs ⟨pvN, cvN, pmN, overV V C⟩)) (.tail _ (.head _))).1 j v hj))) fun o' => ?_
                  refine goA ?_
                  rcases o' with _ | o'
                  · refine l_fact (fun w hw => (hw.item _ (.head _)).1.2) fun h => ?_
                    exact absurd h (by decide)
                  have hs1 : ∀ it ∈ mC pmN [] :: A2, it.Stable none' := fun it hm => by
                    rcases List.mem_cons.1 hm with rfl | hm
                    · exact mapN_stable _ _ _ _
                    · exact hst2 it hm
                  have hs2 : ∀ it ∈ rsI pvN (overV V C) :: mC pmN [] :: A2, it.Stable none' := fun it hm => by
                    rcases List.mem_cons.1 hm with rfl | hm
                    · exact rsI_stable _ _
                    · exact hs1 it hm
                  have hs3 : ∀ it ∈ mC pmA [] :: rsI pvN (overV V C) :: mC pmN [] :: A2, it.Stable none' := fun it hm => by
                    rcases List.mem_cons.1 hm with rfl | hm
                    · exact mapN_stable _ _ _ _
                    · exact hs2 it hm
                  refine l_imp (m' := offL log ⟨xb2, s2, d2, pv2, cv2, pm2, V2, C2, mC pmA [] :: rsI pvN (overV V C) :: mC pmN [] :: A2⟩ ++ [myI o' [⟨pv, cv, pmA, V⟩, ⟨pvN, cvN, pmN, overV V C⟩]]) (fun w' hw' => ?_) ?_
                  · have h1 := ar_add (mapN_stable _ _ _ _) hst2 (hw'.pick [3, 9, 2, 4, 5, 6, 7, 8, 0] rfl rfl)
                    have h2 := ar_add (rsI_stable _ _) hs1 (h1.pick [1, 0, 2, 3, 4, 5, 6, 7] rfl rfl)
                    exact (ar_add (mapN_stable _ _ _ _) hs2 (h2.pick [1, 0, 2, 3, 4, 5, 6] rfl rfl)).pick [1, 2, 3, 4, 0, 5] rfl rfl
                  · obtain ⟨VV, hVM, hVoff, hVbm⟩ : ∃ VV, (∃ m ∈ ([⟨pv, cv, pmA, V⟩, ⟨pvN, cvN, pmN, overV V C⟩] : List My), m.V = VV) ∧ Off d2.D 128 log noteB VV (2 + 700 * i + 601) ∧ ∃ S, BmIs 128 (VV.getD 0 []) S := by
                      rcases hoff2 with h | h
                      · exact ⟨V, ⟨_, .head _, rfl⟩, h, hst.p0⟩
                      · exact ⟨overV V C, ⟨_, .tail _ (.head _), rfl⟩, h, hst.over0 (by decide)⟩
                    refine l_opg rfl (o_cu (pre := offL log ⟨xb2, s2, d2, pv2, cv2, pm2, V2, C2, mC pmA [] :: rsI pvN (overV V C) :: mC pmN [] :: A2⟩ ++ [myI o' [⟨pv, cv, pmA, V⟩, ⟨pvN, cvN, pmN, overV V C⟩]]) (m := []) rfl (by kernel_rfl) rfl (offm_stable log _ _ _) (fun w1 hw1 hh1 ha1 => again_calls log ⟨xb2, s2, d2, pv2, cv2, pm2, V2, C2, mC pmA [] :: rsI pvN (overV V C) :: mC pmN [] :: A2⟩ hl1 hl2 [⟨pv, cv, pmA, V⟩, ⟨pvN, cvN, pmN, overV V C⟩] o' (Nat.le_refl _) VV hVM (fun m hm => by
                      rcases hm with _ | ⟨_, _ | ⟨_, hm⟩⟩
                      · exact ⟨.tail _ (.tail _ (.tail _ (hsub2 _ ar.rows))), .head _, hVl⟩
                      · exact ⟨.tail _ (.head _), .tail _ (.tail _ (.head _)), by rw [overV_len]; exact hVl⟩
                      · cases hm) hs3 (2 + 700 * i + 601) (by omega) hVoff hVbm 3 t.N t.c t.keep hk100 w1 hh1 ha1)) fun ⟨z, hz⟩ => ?_
                    obtain ⟨g1, g2, g3, g4⟩ := hz
                    obtain ⟨zb, s4, d4, pv4, cv4, pm4, V4, C4, A4⟩ := z
                    dsimp only at g1 g2 g4 ⊢
                    subst g1
                    rw [List.append_nil]
                    refine goA ?_
                    exact x_round (i + 1, ⟨zb, s4, d4, pv4, cv4, pm4, V4, C4, A4⟩) ⟨rfl, rfl, rfl, trivial⟩ ⟨hil, ⟨g4.st.more (by show 2 + 700 * i + 601 + 4 ≤ 2 + 700 * (i + 1); omega), g4.ar, hl1, hl2, by show 2 + 700 * (i + 1) ≤ _; omega⟩, rfl⟩ (fun w' hw' => hw') (by show L.length - (i + 1) < L.length - i; omega)
        · obtain rfl : i = L.length := by omega
          refine goA ?_
          refine l_pick [3, 4] rfl rfl ?_
          refine l_opg rfl (o_cu (pre := [ctI, tzI]) rfl (by kernel_rfl) rfl ct_tz_stable (fun w1 hw1 hh1 ha1 => wakes_calls w1 hh1 ha1)) fun ⟨_, _⟩ => ?_
          refine goA ?_
          exact x_ct () rfl rfl rfl trivial (.refl _) ct_tz_stable
end Go.Proofs.YtplhamichcnmmaaGreatDoor
