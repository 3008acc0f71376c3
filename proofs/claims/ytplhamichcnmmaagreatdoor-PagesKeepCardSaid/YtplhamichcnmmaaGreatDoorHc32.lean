/- package pages: Commit. -/
import Derived.Test.YtplhamichcnmmaaGreatDoorHc31
namespace Go.Proofs.YtplhamichcnmmaaGreatDoor
open Go.RowKit Go.Eng
set_option maxRecDepth 100000
set_option maxHeartbeats 40000000
def tC (s : Pg) : Bys := textP (rowsS s.C)
def cm1F (s : Pg) (D : Dsk) : Nat × Dsk × Pg :=
  if s.g.h.secs - s.g.used < needF (tC s).length then ((outF s D).1, (outF s D).2.1, { outS s D with dead := s.dead || decide ((outF s D).1 = 4) }) else (0, D, s)
def cm2F (s : Pg) (D : Dsk) : Nat × Dsk × Pg :=
  ((cmtF D s.g (tC s)).1, (cmtF D s.g (tC s)).2, { s with g := { cmtG D s.g (tC s) with dead := decide ((cmtF D s.g (tC s)).1 = 4) }, dead := s.dead || decide ((cmtF D s.g (tC s)).1 = 4) })
def cmF (s : Pg) (D : Dsk) : Nat × Dsk × Pg := if (cm1F s D).1 = 0 then cm2F (cm1F s D).2.2 (cm1F s D).2.1 else cm1F s D
def cmR (s : Pg) (D : Dsk) (x : PR × List Nat) : Pg := if (cmF s D).1 = 0 then { (cmF s D).2.2 with K := x.1, R := x.2, C := [] } else (cmF s D).2.2
theorem outF_ok {s : Pg} {D : Dsk} (hD : D.Ok) (h : (outF s D).1 = 0) : (outF s D).2.2 = { s.g with h := trimH s.g, at_ := otherF s.g.at_, used := 0, dead := false } ∧ (outF s D).2.1.Ok ∧ (outF s D).2.1.keep = D.keep ∧ (outF s D).2.1.wait = [] := by
  unfold outF at h ⊢
  by_cases e1 : (batF D (wsD s)).1 = 0
  · rw [if_pos e1] at h ⊢
    simp only at h ⊢
    have hb : (batF D (wsD s)).2.Ok ∧ (batF D (wsD s)).2.keep = D.keep := by
      unfold batF at e1 ⊢
      by_cases e2 : (wrsF D (wsD s)).1 = 0
      · rw [if_pos e2] at e1 ⊢
        exact ⟨flushG_ok (wrsF_ok _ _ hD), (flush_keep e1).1.trans (wrsF_keep _ _ hD e2).1⟩
      · rw [if_neg e2] at e1
        exact absurd e1 e2
    generalize (batF D (wsD s)).2 = D1 at hb h ⊢
    unfold trimG
    rw [if_pos h, h]
    unfold writeHF at h ⊢
    by_cases e2 : (writeF D1 (otherF s.g.at_) (hdP (trimH s.g))).1 = 0
    · rw [if_pos e2] at h ⊢
      obtain ⟨w1, w2, -⟩ := writeF_ok hb.1 _ _ e2
      obtain ⟨f1, f2⟩ := flush_keep h
      exact ⟨rfl, flushG_ok w1, f1.trans (w2.trans hb.2), f2⟩
    · rw [if_neg e2] at h
      exact absurd h e2
  · rw [if_neg e1] at h
    exact absurd h e1
structure Cm1 (s s1 : Pg) (D D1 : Dsk) : Prop where
  b : s1.b = s.b
  n : s1.n = s.n
  C : s1.C = s.C
  K : s1.K = s.K
  R : s1.R = s.R ∨ s1.R = []
  dead : s1.dead = false
  h : s1.g.h.Ok
  secs : s1.g.h.secs = s.g.h.secs
  used : s1.g.used ≤ s1.g.h.secs
  next : s1.g.next = s.g.next
  at_ : s1.g.at_ = 0 ∨ s1.g.at_ = 1
  gdead : s1.g.dead = false
  ok : D1.Ok
  keep : D1.keep = D.keep
  wait : D1.wait.length ≤ 10000
theorem cm1_ok {s : Pg} {D : Dsk} (hD : D.Ok) (hwl : D.wait.length ≤ 10000) (hdead : s.dead = false) (hgo : s.g.h.Ok) (hus : s.g.used ≤ s.g.h.secs) (hnx : s.g.next < 18446744073709551616) (hat : s.g.at_ = 0 ∨ s.g.at_ = 1) (hgd : s.g.dead = false) (h : (cm1F s D).1 = 0) : Cm1 s (cm1F s D).2.2 D (cm1F s D).2.1 := by
  unfold cm1F at h ⊢
  split at h
  · rename_i h5
    rw [if_pos h5]
    simp only at h ⊢
    obtain ⟨h1, h2, h3, h4⟩ := outF_ok hD h
    unfold outS
    rw [h1, if_pos h]
    refine ⟨rfl, rfl, rfl, rfl, .inr rfl, ?_, ⟨Nat.mod_lt _ (by decide), hnx, hgo.secs, hgo.note⟩, rfl, Nat.zero_le _, rfl, ?_, rfl, h2, h3, by rw [h4]; decide⟩
    · show (s.dead || decide ((outF s D).1 = 4)) = false
      rw [hdead, h]; rfl
    · show otherF s.g.at_ = 0 ∨ otherF s.g.at_ = 1
      unfold otherF
      split
      · exact .inr rfl
      · exact .inl rfl
  · rename_i h5
    rw [if_neg h5]
    exact ⟨rfl, rfl, rfl, rfl, .inl rfl, hdead, hgo, rfl, hus, rfl, hat, hgd, hD, rfl, hwl⟩
theorem pgcommit_zero (s : Pg) (d : Dk) (hdead : s.dead = false) (hC : s.C = []) (w : World) (h : Here (pgI s d) w) : Pu Tryz.prog 24 #[.pointer (some ⟨s.b, 0, none⟩)] w (.int .i64 0) := by
  refine pu_of [_] Tryz.func24 rfl rfl ?_
  simp only [argSlots]
  refine goA ?_
  refine l_w rfl (v_load (v := .bool s.dead) rfl rfl (fun w' hw' => pg_at (h.keep hw') 7 rfl)) ?_
  rw [hdead]
  refine goA ?_
  refine l_w rfl (v_load (v := .map (some s.cb)) rfl rfl (fun w' hw' => pg_at (h.keep hw') 6 rfl)) ?_
  refine goA ?_
  have hmp := fun (w' : World) (hw' : Hp w none' [] w') => (pg_here (h.keep hw') (it := mapN .i64 s.cb (toP s.C)) (by simp [pgL])).1
  refine l_w rfl (v_lenmapP rfl rfl hmp) ?_
  rw [hC, show (toP []).length = 0 from rfl]
  refine goA ?_
  exact x_pu rfl rfl rfl
theorem pgcommit_calls (s : Pg) (d : Dk) (ok : d.D.Ok) (hkl : d.D.keep.length ≤ 1000000) (hwl : d.D.wait.length ≤ 10000) (hdead : s.dead = false) (hn : s.n ≤ 1024) (hgo : s.g.h.Ok) (hs0 : 0 < s.g.h.secs) (hus : s.g.used ≤ s.g.h.secs) (hnx : s.g.next + needF (tC s).length < 18446744073709551616) (hat : s.g.at_ = 0 ∨ s.g.at_ = 1) (hgd : s.g.dead = false) (hK : s.K.Ok s.n) (hC : s.C.Ok s.n) (hRK : ∀ i ∈ s.R, ∃ b, s.K.lookup i = some b) (hRl : s.R.length ≤ 1024) (hCl : s.C.length ≤ 1024) (hC0 : s.C ≠ []) (w : World)
    (hw : ∀ it ∈ [pgI s d, dkI d, ctI], Here it w) (ha : [pgI s d, dkI d, ctI].Pairwise Eng.Item.Apart) :
    Ct Tryz.prog 24 #[.pointer (some ⟨s.b, 0, none⟩)] w (foots [pgI s d, dkI d, ctI]) (fun _ : Dk × PR × List Nat => .int .i64 ((if s.g.h.secs < needF (tC s).length then 6 else (cmF s d.D).1 : Nat) : Int))
      (fun x => dkOf d (if s.g.h.secs < needF (tC s).length then d.D else (cmF s d.D).2.1) x.1 ∧ (¬ s.g.h.secs < needF (tC s).length → (cmF s d.D).1 = 0 → kepsG (cmF s d.D).2.2 x.2)) (fun x => [pgI (if s.g.h.secs < needF (tC s).length then { s with C := [] } else cmR s d.D x.2) x.1, dkI x.1, ctI]) := by
  refine cu_of [_] _ Tryz.func24 rfl rfl hw ha ?_
  have hsecs := hgo.secs
  have htl : (tC s).length = 514 * s.C.length := by
    have := textP_len (rowsS_ok hC)
    rw [show (rowsS s.C).length = s.C.length by rw [rowsS, List.length_map, srtN_len, List.length_map]] at this
    exact this
  have hcl0 : s.C.length ≠ 0 := fun h => hC0 (List.eq_nil_of_length_eq_zero h)
  have hpg : ∀ {m : List Eng.Item} {w1 : World}, Hp w (foots [pgI s d, dkI d, ctI]) (pgI s d :: m) w1 → Here (pgI s d) w1 := fun hw1 => Here.of (hw1.item (pgI s d) (.head _)) (pgI_stable s d)
  simp only [argSlots]
  refine goA ?_
  refine l_w rfl (v_load (v := .bool false) rfl rfl (fun w' hw' => pg_at (hpg hw') 7 (by rw [← hdead]; rfl))) ?_
  refine goA ?_
  refine l_w rfl (v_load (v := .map (some s.cb)) rfl rfl (fun w' hw' => pg_at (hpg hw') 6 rfl)) ?_
  refine goA ?_
  refine l_w rfl (v_lenmapP (A := toP s.C) rfl rfl (fun w' hw' => (pg_here (hpg hw') (it := mapN .i64 s.cb (toP s.C)) (by simp [pgL])).1)) ?_
  rw [show (toP s.C).length = s.C.length by simp [toP]]
  refine goA ?_
  refine l_opg rfl (o_cu (pre := [pgI s d]) rfl (by kernel_rfl) rfl (pg1_stable s d) (fun w1 hw1 hh1 ha1 => pgtext_calls s d hn hC hCl w1 hh1)) fun ⟨_, _⟩ => ?_
  rw [show textP (rowsS s.C) = tC s from rfl]
  refine goA ?_
  rw [bal]
  refine l_opg rfl (o_pure rfl (by kernel_rfl) rfl (fun w1 hw1 => need_calls (tC s).length (by omega) w1)) fun _ => ?_
  refine goA ?_
  refine l_w rfl (v_load (v := .pointer (some ⟨s.bl, 0, none⟩)) rfl rfl (fun w' hw' => pg_at (hpg hw') 0 rfl)) ?_
  refine goA ?_
  refine l_opg rfl (o_pure rfl (by kernel_rfl) rfl (fun w1 hw1 => lgsectors_calls s.bl d s.g w1 (pg_log (hpg hw1)))) fun _ => ?_
  refine l_w rfl (v_bt rfl rfl) ?_
  by_cases h6 : s.g.h.secs < needF (tC s).length
  · simp only [if_pos h6]
    refine goA ?_
    refine l_opg rfl (o_cu (pre := [pgI s d]) rfl (by kernel_rfl) rfl (pg1_stable s d) (fun w1 hw1 hh1 ha1 => abort_calls s d w1 hh1)) fun ⟨_, _⟩ => ?_
    refine goA ?_
    exact x_ct (d, [], []) rfl rfl rfl ⟨⟨rfl, rfl, rfl⟩, fun h => absurd h6 h⟩ (.refl _) (pdc_stable _ _)
  · simp only [if_neg h6]
    refine l_nil (x_then ?_)
    refine t_if rfl rfl (fun h => absurd h (by omega)) (fun _ => ?_)
    refine t_skip (x_then ?_)
    refine t_seq ?_
    refine t_join (w0 := w) (F := foots [pgI s d, dkI d, ctI]) (α := Dk × Pg) (fun _ => [(0, .pointer (some ⟨s.b, 0, none⟩)), (3, .string ⟨(tC s).toArray⟩)]) (fun z => (cm1F s d.D).1 = 0 ∧ dkOf d (cm1F s d.D).2.1 z.1 ∧ z.2 = (cm1F s d.D).2.2) (fun z => [pgI z.2 z.1, dkI z.1, ctI]) ?_ ?_
    · refine goA ?_
      refine l_w rfl (v_load (v := .pointer (some ⟨s.bl, 0, none⟩)) rfl rfl (fun w' hw' => pg_at (hpg hw') 0 rfl)) ?_
      refine goA ?_
      refine l_opg rfl (o_pure rfl (by kernel_rfl) rfl (fun w1 hw1 => lgleft_calls s.bl d s.g hsecs hus w1 (pg_log (hpg hw1)))) fun _ => ?_
      refine l_w rfl (v_bt rfl rfl) ?_
      by_cases h5 : s.g.h.secs - s.g.used < needF (tC s).length
      · have hcm1 : cm1F s d.D = ((outF s d.D).1, (outF s d.D).2.1, { outS s d.D with dead := s.dead || decide ((outF s d.D).1 = 4) }) := by rw [cm1F, if_pos h5]
        rw [hcm1]
        refine goA ?_
        refine l_opg rfl (o_cu (pre := [pgI s d, dkI d, ctI]) (m := []) rfl (by kernel_rfl) rfl (pdc_stable s d) (fun w1 hw1 hh1 ha1 => out_calls s d ok hkl hwl hn hgo (by omega) hat hgd hK hRK hRl w1 hh1 ha1)) fun ⟨d', hd'⟩ => ?_
        refine l_opg rfl (o_cu (pre := [pgI (outS s d.D) d']) rfl (by kernel_rfl) rfl (pg1_stable _ _) (fun w1 hw1 hh1 ha1 => says_calls (outS s d.D) d' (outF s d.D).1 w1 hh1)) fun ⟨_, _⟩ => ?_
        refine goA ?_
        by_cases he : (outF s d.D).1 = 0
        · have hne : (((outF s d.D).1 : Int) != 0) = false := by simp [he]
          rw [hne]
          refine goA ?_
          exact x_join (d', { outS s d.D with dead := s.dead || decide ((outF s d.D).1 = 4) }) ⟨rfl, rfl, trivial⟩ ⟨he, hd', rfl⟩ (fun w hw => hw)
        · have hne : (((outF s d.D).1 : Int) != 0) = true := by simp [he]
          have hcm : cmF s d.D = cm1F s d.D := by rw [cmF, if_neg (by rw [hcm1]; exact he)]
          rw [hne]
          simp only [cmR, hcm, hcm1, if_neg he]
          refine goA ?_
          exact x_ct (d', [], []) rfl rfl rfl ⟨hd', fun _ h => absurd h he⟩ (.refl _) (pdc_stable _ _)
      · have hcm1 : cm1F s d.D = (0, d.D, s) := by rw [cm1F, if_neg h5]
        rw [hcm1]
        refine goA ?_
        exact x_join (d, s) ⟨rfl, rfl, trivial⟩ ⟨rfl, ⟨rfl, rfl, rfl⟩, rfl⟩ (fun w hw => hw)
    · rintro ⟨d1, s1⟩ ⟨he, hd1, hs1⟩
      simp only at he hd1 hs1 ⊢
      have hc := cm1_ok ok hwl hdead hgo hus (by omega) hat hgd he
      have hcm : cmF s d.D = cm2F (cm1F s d.D).2.2 (cm1F s d.D).2.1 := by rw [cmF, if_pos he]
      unfold cmR
      rw [hcm]
      rw [← hs1, ← hd1.2.2] at hc ⊢
      have htC : tC s1 = tC s := by unfold tC; rw [hc.C]
      rw [← hc.b, ← htC]
      have hnl : needF (tC s1).length ≤ 1100 := by rw [htC, htl]; unfold needF; omega
      have htl1 : (tC s1).length ≤ 1000000000 := by rw [htC, htl]; omega
      have hsec0 : 0 < s1.g.h.secs := by rw [hc.secs]; exact hs0
      have hnx1 : s1.g.next + needF (tC s1).length < 18446744073709551616 := by rw [hc.next, htC]; exact hnx
      refine t_imp (m' := pgL s1 d1 ++ [dkI d1, ctI]) (fun w' hw' => pg_open (m := [dkI d1, ctI]) hw') ?_
      unfold pgL
      refine goA ?_
      refine l_pick [1, 5, 6, 0, 2, 3, 4] rfl rfl ?_
      refine l_opg rfl (o_cu (pre := [lgI s1.bl d1 s1.g, dkI d1, ctI]) rfl (by kernel_rfl) rfl (by intro it hm; rcases hm with _ | ⟨_, hm⟩ <;> first | exact pt_stable _ _ _ | exact dc_stable d1 it hm) (fun w1 hw1 hh1 ha1 => lgcommit_calls s1.bl (tC s1) d1 s1.g hc.ok (by rw [hc.keep]; exact hkl) (by have := hc.wait; omega) htl1 hc.h hsec0 hc.used hnx1 hc.gdead w1 hh1 ha1)) fun ⟨d2, hd2⟩ => ?_
      unfold cm2F
      have hd2' := hd1.trans hd2
      generalize hg2 : cmtG d1.D s1.g (tC s1) = g2
      generalize hr : cmtF d1.D s1.g (tC s1) = r at hd2 hd2' ⊢
      dsimp only
      refine l_imp (m' := [pgI { s1 with g := { g2 with dead := decide (r.1 = 4) } } d2, dkI d2, ctI]) (fun w' hw' => ?_) ?_
      · have e : pgC s1 d1 = pgC s1 d2 := by unfold pgC pgA; rw [hd2.1]
        rw [e] at hw'
        exact pg_close (s := { s1 with g := { g2 with dead := decide (r.1 = 4) } }) (m := [dkI d2, ctI]) (hw'.pick [3, 0, 4, 5, 6, 1, 2] rfl rfl)
      refine l_opg rfl (o_cu (pre := [pgI { s1 with g := { g2 with dead := decide (r.1 = 4) } } d2]) rfl (by kernel_rfl) rfl (pg1_stable _ _) (fun w1 hw1 hh1 ha1 => says_calls { s1 with g := { g2 with dead := decide (r.1 = 4) } } d2 r.1 w1 hh1)) fun ⟨_, _⟩ => ?_
      refine goA ?_
      obtain ⟨s2, hs2⟩ : ∃ s2 : Pg, s2 = { s1 with g := { g2 with dead := decide (r.1 = 4) }, dead := s1.dead || decide (r.1 = 4) } := ⟨_, rfl⟩
      refine t_imp (m' := [pgI s2 d2, dkI d2, ctI]) (fun w' hw' => by rw [hs2]; exact hw') ?_
      rw [← hs2]
      have hb2 : s2.b = s1.b := by rw [hs2]
      have hC2 : s2.C = s.C := by rw [hs2]; exact hc.C
      have hK2 : s2.K = s.K := by rw [hs2]; exact hc.K
      have hn2 : s2.n = s.n := by rw [hs2]; exact hc.n
      rw [← hb2]
      by_cases he2 : r.1 = 0
      · have hne : ((r.1 : Int) != 0) = false := by simp [he2]
        rw [hne]
        simp only [if_pos he2]
        refine t_imp (m' := pgL s2 d2 ++ [dkI d2, ctI]) (fun w' hw' => pg_open (m := [dkI d2, ctI]) hw') ?_
        unfold pgL
        refine t_fact (fun w hw => keysN_nodup (hw.item (mapN .i64 s2.cb (toP s2.C)) (by simp)).1) fun hnd => ?_
        have hke : keysN (toP s2.C) = s2.C.map (·.1) := by simp [keysN, toP, Function.comp_def]
        have hCo2 : s2.C.Ok s2.n := by rw [hC2, hn2]; exact hC
        have hKo2 : s2.K.Ok s2.n := by rw [hK2, hn2]; exact hK
        refine goA ?_
        refine l_say 66 _ (.map (some s2.cb)) rfl rfl ?_
        refine l_pick [4, 0, 1, 2, 3, 5, 6] rfl rfl ?_
        refine l_op rfl (o_rangeN rfl rfl rfl) fun ⟨rr, hrr⟩ => ?_
        refine goA ?_
        refine t_for (α := KpS) (fun _ => [(0, .pointer (some ⟨s2.b, 0, none⟩)), (67, .pointer (some ⟨rr, 0, none⟩))]) (fun y => KpOk s2 y) (fun y => [itN .i64 rr s2.cb (toP s2.C) y.L y.c, pgC s2 d2, lgI s2.bl d2 s2.g, mapN .i64 s2.kb (toP y.K), mapN .i64 s2.db (toB y.R), dkI d2, ctI]) (fun y => y.L.length) ⟨toP s2.C, none, [], s2.K, s2.R⟩ ⟨rfl, rfl, trivial⟩ ⟨by show toP s2.C = (toP s2.C).filter (fun x => decide (x.1 ∉ ([] : List Nat))); exact (List.filter_eq_self.2 fun _ _ => by simp).symm, List.nodup_nil, (fun _ (h : _ ∈ ([] : List Nat)) => nomatch h), fun i => by simp, fun i => by simp, hKo2, id⟩ (fun w h => h) fun ⟨L, c, k, K, R⟩ hy => ?_
        simp only
        refine goA ?_
        refine l_op rfl (o_nextN rfl rfl) fun ⟨y, hyy⟩ => ?_
        cases y with
        | none =>
          simp only at hyy ⊢
          subst hyy
          have hdn := hy.done rfl (by rw [← hke]; exact hnd)
          refine goA ?_
          refine l_imp (m' := [pgI { s2 with K := K, R := R } d2, dkI d2, ctI]) (fun w' hw' => by have h1 := itN_end hw'; exact pg_close (s := { s2 with K := K, R := R }) (m := [dkI d2, ctI]) (h1.pick [1, 2, 3, 4, 0, 5, 6] rfl rfl)) ?_
          refine l_opg rfl (o_cu (pre := [pgI { s2 with K := K, R := R } d2]) rfl (by kernel_rfl) rfl (pg1_stable _ _) (fun w1 hw1 hh1 ha1 => abort_calls { s2 with K := K, R := R } d2 w1 hh1)) fun ⟨_, _⟩ => ?_
          refine goA ?_
          subst hs2
          exact x_ct (d2, K, R) rfl rfl (by rw [he2]; rfl) ⟨hd2', fun _ _ => hdn⟩ (.refl _) (pdc_stable _ _)
        | some p =>
          simp only at hyy ⊢
          have hpC : p ∈ toP s2.C := by
            have h1 := hy.L
            simp only at h1
            rw [h1] at hyy
            exact (List.mem_filter.1 hyy).1
          have hlk := lookN_at hnd hpC
          rw [toP_lookup] at hlk
          obtain ⟨i, v⟩ := p
          simp only at hlk
          obtain ⟨b, hb, rfl⟩ : ∃ b, s2.C.lookup i = some b ∧ pgV b = v := by
            cases hl : s2.C.lookup i with
            | none => rw [hl] at hlk; cases hlk
            | some b => rw [hl] at hlk; exact ⟨b, rfl, by injection hlk⟩
          have hbo := hCo2 _ (lookup_memG hb)
          have hstep := hy.step hyy hb hbo
          simp only at hbo hstep
          have hbl : (bytesV b).length = 512 := by rw [bytesV_length, hbo.2]
          have hlt := outN_len hyy
          have hi1024 : i ≤ 1000000 := by have := hbo.1; omega
          refine goA ?_
          refine l_w rfl (v_entryN rfl (.head _)) ?_
          refine goA ?_
          refine l_alloca rfl rfl fun b8 hb8 => ?_
          refine goA ?_
          unfold pgV
          refine l_op rfl (o_storea (cs' := (bytesV b).toArray) rfl rfl rfl (by rw [List.size_toArray, hbl]; rfl) (bytesV_one _) (by rw [List.size_toArray, hbl]; rfl)) fun _ => ?_
          refine goA ?_
          refine t_pick [4, 5, 0, 1, 2, 3, 6, 7] rfl rfl ?_
          refine t_drawm [2, 3, 4, 5, 6, 7] 17 rfl rfl (by kernel_rfl) ?_
          (repeat first | (apply d_w [10] rfl rfl rfl (by kernel_rfl) (fun _ h => by first | exact h | exact Hp.sub h (.cons _ (.refl _)) | exact Hp.sub h (.cons _ (.cons _ (.refl _))) | exact Hp.sub h (.cons _ (.cons _ (.cons _ (.refl _)))) | exact Hp.sub h (.cons _ (.cons _ (.cons _ (.cons _ (.refl _))))) | exact Hp.sub h (.cons _ (.cons _ (.cons _ (.cons _ (.cons _ (.refl _)))))) | exact Hp.sub h (.cons _ (.cons _ (.cons _ (.cons _ (.cons _ (.cons _ (.refl _))))))) | exact Hp.sub h (.cons_cons _ (.cons_cons _ (List.nil_sublist _))) | exact Hp.sub h (.cons _ (.cons_cons _ (.cons_cons _ (List.nil_sublist _))))); focus (first | exact v_move rfl | exact v_assign rfl | exact v_bt rfl rfl | exact v_extract rfl rfl | exact v_field0 rfl rfl | exact v_field rfl rfl | exact v_lens rfl rfl | exact v_lenstr rfl rfl | exact v_nt rfl | exact v_load1p rfl rfl (by repeat first | exact .head _ | apply List.Mem.tail) | exact v_loadn rfl rfl (by repeat first | exact .head _ | apply List.Mem.tail) rfl | exact v_loadp rfl rfl (by repeat first | exact .head _ | apply List.Mem.tail) rfl | exact v_loada rfl rfl (by repeat first | exact .head _ | apply List.Mem.tail) | exact v_eqb rfl rfl rfl | exact v_slA rfl rfl rfl | exact v_builds rfl rfl rfl rfl rfl | exact v_eqs rfl rfl | exact v_nc rfl | exact v_caps rfl rfl | exact v_eqpn rfl rfl rfl | exact v_nepn rfl rfl rfl | exact v_neps rfl rfl rfl rfl | ((first | refine v_bn rfl rfl ?_ | refine v_is1 rfl rfl rfl ?_ | refine v_ia1 rfl rfl rfl ?_ | refine v_sa rfl rfl rfl ?_ | refine v_sF rfl rfl rfl ?_ | refine v_sT rfl rfl rfl ?_ | refine v_sFT rfl rfl rfl rfl ?_ | refine v_lF rfl rfl rfl rfl ?_ | refine v_is rfl rfl rfl ?_ | refine v_ia rfl rfl rfl ?_ | refine v_lT rfl rfl rfl rfl ?_ | refine v_cv rfl rfl rfl ?_ | refine v_slLH rfl rfl rfl rfl rfl ?_ | refine v_sl3 rfl rfl rfl rfl rfl ?_); first | omega | assumption) | exact v_pT rfl rfl (by first | omega | assumption | (simp; done) | exact fun h => h (by assumption) | fail) | exact v_pF rfl rfl (by first | omega | assumption | (simp; done) | exact fun h => h (by assumption) | fail) | exact v_pickB rfl rfl rfl)) | refine d_no [10] rfl rfl rfl (by kernel_rfl) (fun _ h => by first | exact h | exact Hp.sub h (.cons _ (.refl _)) | exact Hp.sub h (.cons _ (.cons _ (.refl _))) | exact Hp.sub h (.cons _ (.cons _ (.cons _ (.refl _)))) | exact Hp.sub h (.cons _ (.cons _ (.cons _ (.cons _ (.refl _))))) | exact Hp.sub h (.cons _ (.cons _ (.cons _ (.cons _ (.cons _ (.refl _)))))) | exact Hp.sub h (.cons _ (.cons _ (.cons _ (.cons _ (.cons _ (.cons _ (.refl _))))))) | exact Hp.sub h (.cons_cons _ (.cons_cons _ (List.nil_sublist _))) | exact Hp.sub h (.cons _ (.cons_cons _ (.cons_cons _ (List.nil_sublist _))))) ?_ | refine d_T [10] rfl rfl rfl rfl (by first | omega | assumption | (simp; done) | exact fun h => h (by assumption) | fail) ?_ | refine d_F [10] rfl rfl rfl rfl (by first | omega | assumption | (simp; done) | exact fun h => h (by assumption) | fail) ?_)
          refine d_v [11, 14] rfl rfl (by kernel_rfl) (fun _ h => by first | exact h | exact Hp.sub h (.cons _ (.refl _)) | exact Hp.sub h (.cons _ (.cons _ (.refl _))) | exact Hp.sub h (.cons _ (.cons _ (.cons _ (.refl _)))) | exact Hp.sub h (.cons _ (.cons _ (.cons _ (.cons _ (.refl _))))) | exact Hp.sub h (.cons _ (.cons _ (.cons _ (.cons _ (.cons _ (.refl _)))))) | exact Hp.sub h (.cons _ (.cons _ (.cons _ (.cons _ (.cons _ (.cons _ (.refl _))))))) | exact Hp.sub h (.cons_cons _ (.cons_cons _ (List.nil_sublist _))) | exact Hp.sub h (.cons _ (.cons_cons _ (.cons_cons _ (List.nil_sublist _))))) rfl rfl (v_loada rfl (by rw [List.size_toArray, hbl]; rfl) (.head _)) ?_
          simp only
          refine d_opg 11 ⟨by kernel_rfl, by decide⟩ rfl rfl (o_mapentry (h := i) rfl rfl rfl rfl rfl rfl (okI hi1024)) (fun _ _ h => goH h) fun st1 => ?_
          generalize (List.lookup i (toP K)).getD _ = u1
          (repeat first | (apply d_w [14] rfl rfl rfl (by kernel_rfl) (fun _ h => by first | exact h | exact Hp.sub h (.cons _ (.refl _)) | exact Hp.sub h (.cons _ (.cons _ (.refl _))) | exact Hp.sub h (.cons _ (.cons _ (.cons _ (.refl _)))) | exact Hp.sub h (.cons _ (.cons _ (.cons _ (.cons _ (.refl _))))) | exact Hp.sub h (.cons _ (.cons _ (.cons _ (.cons _ (.cons _ (.refl _)))))) | exact Hp.sub h (.cons _ (.cons _ (.cons _ (.cons _ (.cons _ (.cons _ (.refl _))))))) | exact Hp.sub h (.cons_cons _ (.cons_cons _ (List.nil_sublist _))) | exact Hp.sub h (.cons _ (.cons_cons _ (.cons_cons _ (List.nil_sublist _))))); focus (first | exact v_move rfl | exact v_assign rfl | exact v_bt rfl rfl | exact v_extract rfl rfl | exact v_field0 rfl rfl | exact v_field rfl rfl | exact v_lens rfl rfl | exact v_lenstr rfl rfl | exact v_nt rfl | exact v_load1p rfl rfl (by repeat first | exact .head _ | apply List.Mem.tail) | exact v_loadn rfl rfl (by repeat first | exact .head _ | apply List.Mem.tail) rfl | exact v_loadp rfl rfl (by repeat first | exact .head _ | apply List.Mem.tail) rfl | exact v_loada rfl rfl (by repeat first | exact .head _ | apply List.Mem.tail) | exact v_eqb rfl rfl rfl | exact v_slA rfl rfl rfl | exact v_builds rfl rfl rfl rfl rfl | exact v_eqs rfl rfl | exact v_nc rfl | exact v_caps rfl rfl | exact v_eqpn rfl rfl rfl | exact v_nepn rfl rfl rfl | exact v_neps rfl rfl rfl rfl | ((first | refine v_bn rfl rfl ?_ | refine v_is1 rfl rfl rfl ?_ | refine v_ia1 rfl rfl rfl ?_ | refine v_sa rfl rfl rfl ?_ | refine v_sF rfl rfl rfl ?_ | refine v_sT rfl rfl rfl ?_ | refine v_sFT rfl rfl rfl rfl ?_ | refine v_lF rfl rfl rfl rfl ?_ | refine v_is rfl rfl rfl ?_ | refine v_ia rfl rfl rfl ?_ | refine v_lT rfl rfl rfl rfl ?_ | refine v_cv rfl rfl rfl ?_ | refine v_slLH rfl rfl rfl rfl rfl ?_ | refine v_sl3 rfl rfl rfl rfl rfl ?_); first | omega | assumption) | exact v_pT rfl rfl (by first | omega | assumption | (simp; done) | exact fun h => h (by assumption) | fail) | exact v_pF rfl rfl (by first | omega | assumption | (simp; done) | exact fun h => h (by assumption) | fail) | exact v_pickB rfl rfl rfl)) | refine d_no [14] rfl rfl rfl (by kernel_rfl) (fun _ h => by first | exact h | exact Hp.sub h (.cons _ (.refl _)) | exact Hp.sub h (.cons _ (.cons _ (.refl _))) | exact Hp.sub h (.cons _ (.cons _ (.cons _ (.refl _)))) | exact Hp.sub h (.cons _ (.cons _ (.cons _ (.cons _ (.refl _))))) | exact Hp.sub h (.cons _ (.cons _ (.cons _ (.cons _ (.cons _ (.refl _)))))) | exact Hp.sub h (.cons _ (.cons _ (.cons _ (.cons _ (.cons _ (.cons _ (.refl _))))))) | exact Hp.sub h (.cons_cons _ (.cons_cons _ (List.nil_sublist _))) | exact Hp.sub h (.cons _ (.cons_cons _ (.cons_cons _ (List.nil_sublist _))))) ?_ | refine d_T [14] rfl rfl rfl rfl (by first | omega | assumption | (simp; done) | exact fun h => h (by assumption) | fail) ?_ | refine d_F [14] rfl rfl rfl rfl (by first | omega | assumption | (simp; done) | exact fun h => h (by assumption) | fail) ?_)
          refine d_opg 13 ⟨by kernel_rfl, by decide⟩ rfl rfl (o_entrystore (h := i) (s := st1) (u := u1) (v := pgV b) rfl rfl rfl rfl) (fun _ _ h => goH h) fun _ => ?_
          refine d_opg 14 ⟨by kernel_rfl, by decide⟩ rfl rfl (ho_perm (bring1 _ _ _) (o_mapentry (h := i) rfl rfl rfl rfl rfl rfl (okI hi1024))) (fun _ _ h => goH h) fun st2 => ?_
          generalize (List.lookup i (toB R)).getD _ = u2
          refine goE ?_
          refine d_opg 16 ⟨by kernel_rfl, by decide⟩ rfl rfl (o_entrystore (h := i) (s := st2) (u := u2) (v := .bool true) rfl rfl rfl rfl) (fun _ _ h => goH h) fun _ => ?_
          refine d_end (by kernel_rfl) ?_
          rw [← toP_ins, toB_ins]
          refine goA ?_
          exact x_round ⟨outN L (i, pgV b), some (i, pgV b), k ++ [i], insG K i b, if i ∈ R then R else R ++ [i]⟩ ⟨rfl, rfl, trivial⟩ hstep (fun w hw => hw.pick [3, 4, 5, 1, 0, 6, 7] rfl rfl) hlt
      · have hne : ((r.1 : Int) != 0) = true := by simp [he2]
        rw [hne]
        simp only [if_neg he2]
        refine goA ?_
        exact x_ct (d2, [], []) rfl rfl rfl ⟨hd2', fun _ h => absurd h he2⟩ (.refl _) (pdc_stable _ _)
end Go.Proofs.YtplhamichcnmmaaGreatDoor
