/- package wal: Commit. -/
/- package wal: Commit. -/
import Derived.Test.YtplhamichcnmmaaGreatDoorHc19
import Derived.Test.YtplhamichcnmmaaGreatDoorHc21
namespace Go.Proofs.YtplhamichcnmmaaGreatDoor
open Go.RowKit Go.Eng
set_option maxRecDepth 100000
set_option maxHeartbeats 40000000
def wsC (g : Lg) (t : Bys) : List (Nat × Bys) := (pcsL g.next t).map fun s => (placeF s.seq g.h.secs, shtP s)
def cmtF (D : Dsk) (g : Lg) (t : Bys) : Nat × Dsk :=
  if g.h.secs < needF t.length then (6, D) else if g.h.secs - g.used < needF t.length then (5, D) else batF D (wsC g t)
def cmtG (D : Dsk) (g : Lg) (t : Bys) : Lg := if (cmtF D g t).1 = 0 then { g with next := g.next + needF t.length, used := g.used + needF t.length } else g
theorem wrsF_snoc : ∀ (l : List (Nat × Bys)) (D : Dsk) (p : Nat × Bys), wrsF D (l ++ [p]) = if (wrsF D l).1 = 0 then writeF (wrsF D l).2 p.1 p.2 else wrsF D l
  | [], D, p => by
    show (if (writeF D p.1 p.2).1 = 0 then (0, (writeF D p.1 p.2).2) else writeF D p.1 p.2) = writeF D p.1 p.2
    by_cases h : (writeF D p.1 p.2).1 = 0
    · rw [if_pos h, ← h]
    · rw [if_neg h]
  | q :: l, D, p => by
    rw [List.cons_append, wrsF, wrsF]
    by_cases h : (writeF D q.1 q.2).1 = 0
    · rw [if_pos h, if_pos h, wrsF_snoc l]
    · rw [if_neg h, if_neg h, if_neg h]
theorem wrsF_bad : ∀ (l l' : List (Nat × Bys)) (D : Dsk), (wrsF D l).1 ≠ 0 → wrsF D (l ++ l') = wrsF D l
  | [], _, _, h => absurd rfl h
  | q :: l, l', D, h => by
    rw [List.cons_append, wrsF, wrsF]
    rw [wrsF] at h
    by_cases h' : (writeF D q.1 q.2).1 = 0
    · rw [if_pos h'] at h ⊢
      rw [if_pos h', wrsF_bad l l' _ h]
    · rw [if_neg h', if_neg h']
theorem wrsF_ok : ∀ (l : List (Nat × Bys)) (D : Dsk), D.Ok → (wrsF D l).2.Ok
  | [], _, h => h
  | q :: l, D, h => by
    rw [wrsF]
    split
    · exact wrsF_ok l _ (write_ok h _ _)
    · exact write_ok h _ _
theorem wrsF_keep : ∀ (l : List (Nat × Bys)) (D : Dsk), D.Ok → (wrsF D l).1 = 0 → (wrsF D l).2.keep = D.keep ∧ (wrsF D l).2.wait.length = D.wait.length + l.length
  | [], _, _, _ => ⟨rfl, rfl⟩
  | q :: l, D, h, h0 => by
    rw [wrsF] at h0 ⊢
    by_cases h' : (writeF D q.1 q.2).1 = 0
    · rw [if_pos h'] at h0 ⊢
      obtain ⟨h1, h2, h3, -⟩ := writeF_ok h q.1 q.2 h'
      obtain ⟨h4, h5⟩ := wrsF_keep l _ h1 h0
      refine ⟨h4.trans h2, ?_⟩
      rw [h5, h3]
      simp
      omega
    · rw [if_neg h'] at h0
      exact absurd h0 h'
abbrev cmL (b bn bl bt : Nat) (n : Nat) (t : Bys) (d : Dk) (g : Lg) : List Eng.Item := [lgI b d g, pt bn (.cells #[.int .i64 (n : Int)] 3 (0, 0)), boxI bl b, pt bt (.cells #[.string ⟨t.toArray⟩] 9 (0, 0)), dkI d, ctI]
theorem cmL_stable (b bn bl bt : Nat) (n : Nat) (t : Bys) (d : Dk) (g : Lg) : ∀ it ∈ cmL b bn bl bt n t d g, it.Stable none' := by
  intro it hm
  rcases hm with _ | ⟨_, _ | ⟨_, _ | ⟨_, _ | ⟨_, hm⟩⟩⟩⟩
  · exact pt_stable _ _ _
  · exact pt_stable _ _ _
  · exact pt_stable _ _ _
  · exact pt_stable _ _ _
  · exact dc_stable d it hm
theorem commit1_calls (b bn bl bt : Nat) (t : Bys) (d : Dk) (g : Lg) (ok : d.D.Ok) (hkl : d.D.keep.length ≤ 1000000) (hwl : d.D.wait.length + needF t.length ≤ 1000000) (ht : t.length ≤ 1000000000) (hg : g.h.Ok) (hs0 : 0 < g.h.secs) (hus : g.used ≤ g.h.secs) (hnx : g.next + needF t.length < 18446744073709551616) (w : World)
    (hw : ∀ it ∈ cmL b bn bl bt (needF t.length) t d g, Here it w) (ha : (cmL b bn bl bt (needF t.length) t d g).Pairwise Eng.Item.Apart) :
    Ct Tryz.prog 116 #[.pointer (some ⟨bn, 0, none⟩), .pointer (some ⟨bl, 0, none⟩), .pointer (some ⟨bt, 0, none⟩)] w (foots (cmL b bn bl bt (needF t.length) t d g)) (fun _ : Dk => .int .i64 ((cmtF d.D g t).1 : Nat)) (dkOf d (cmtF d.D g t).2) (fun d' => cmL b bn bl bt (needF t.length) t d' (cmtG d.D g t)) := by
  refine cu_of [_, _, _] _ Tryz.func116 rfl rfl hw ha ?_
  have hsecs := hg.secs
  have hn0 := needF_pos t.length
  simp only [argSlots, Nat.reduceAdd]
  refine goA ?_
  refine t_drawm [0, 1, 2, 3, 4, 5] 8 rfl rfl (by kernel_rfl) ?_
  refine goE ?_
  refine d_end (by kernel_rfl) ?_
  refine goA ?_
  by_cases h6 : g.h.secs < needF t.length
  · refine goA ?_
    refine x_ct d rfl rfl (by rw [cmtF, if_pos h6]; rfl) ⟨rfl, rfl, by rw [cmtF, if_pos h6]⟩ ?_ (cmL_stable _ _ _ _ _ _ _ _)
    rw [cmtG, cmtF, if_pos h6, if_neg (Nat.succ_ne_zero _)]
    exact .refl _
  · refine goA ?_
    refine t_drawm [0, 1, 2, 3, 4, 5] 5 rfl rfl (by kernel_rfl) ?_
    refine goE ?_
    refine d_opg 2 ⟨by kernel_rfl, by decide⟩ rfl rfl (o_pure rfl (by kernel_rfl) rfl (fun w1 hw1 => lgleft_calls b d g hsecs hus w1 (Here.of (hw1.item _ (.head _)) (pt_stable _ _ _)))) (fun _ _ h => goH h) fun _ => ?_
    refine goE ?_
    refine d_end (by kernel_rfl) ?_
    by_cases h5 : g.h.secs - g.used < needF t.length
    · refine goA ?_
      refine x_ct d rfl rfl (by rw [cmtF, if_neg h6, if_pos h5]; rfl) ⟨rfl, rfl, by rw [cmtF, if_neg h6, if_pos h5]⟩ ?_ (cmL_stable _ _ _ _ _ _ _ _)
      rw [cmtG, cmtF, if_neg h6, if_pos h5, if_neg (Nat.succ_ne_zero _)]
      exact .refl _
    · refine goA ?_
      refine t_drawm [0, 1, 2, 3, 4, 5] 8 rfl rfl (by kernel_rfl) ?_
      refine goE ?_
      refine d_ctg 5 ⟨by kernel_rfl, by decide⟩ rfl rfl rfl (by kernel_rfl) rfl (fun _ h => h) (fun w1 hw1 => Cut_calls g.next t ht hnx w1) fun x hx => ?_
      refine goE ?_
      refine d_end (by kernel_rfl) ?_
      obtain ⟨xb, xc⟩ := x
      have hcm : cmtF d.D g t = batF d.D (wsC g t) := by rw [cmtF, if_neg h6, if_neg h5]
      have hcmg : cmtG d.D g t = if (cmtF d.D g t).1 = 0 then { g with next := g.next + needF t.length, used := g.used + needF t.length } else g := rfl
      have hwsl : (wsC g t).length = needF t.length := by rw [wsC, List.length_map, pcsL_len]
      have hwsk : ∀ k, k < needF t.length → (wsC g t).take (k + 1) = (wsC g t).take k ++ [(placeF (g.next + k) g.h.secs, shtP (pcS g.next t k))] := fun k hk => by
        rw [List.take_add_one, wsC, List.getElem?_map, pcsL_at hk]
        rfl
      have hstep : ∀ k, k < needF t.length → wrsF d.D ((wsC g t).take (k + 1)) = if (wrsF d.D ((wsC g t).take k)).1 = 0 then writeF (wrsF d.D ((wsC g t).take k)).2 (placeF (g.next + k) g.h.secs) (shtP (pcS g.next t k)) else wrsF d.D ((wsC g t).take k) := fun k hk => by
        rw [hwsk k hk, wrsF_snoc]
      have hdone : (wrsF d.D ((wsC g t).take (needF t.length))) = wrsF d.D (wsC g t) := by rw [List.take_of_length_le (by omega)]
      have hbad : ∀ k, (wrsF d.D ((wsC g t).take k)).1 ≠ 0 → batF d.D (wsC g t) = wrsF d.D ((wsC g t).take k) := fun k hk => by
        have h1 := wrsF_bad ((wsC g t).take k) ((wsC g t).drop k) d.D hk
        rw [List.take_append_drop] at h1
        rw [batF, h1, if_neg hk]
      have hkeepk : ∀ k, k ≤ needF t.length → (wrsF d.D ((wsC g t).take k)).1 = 0 → (wrsF d.D ((wsC g t).take k)).2.keep = d.D.keep ∧ (wrsF d.D ((wsC g t).take k)).2.wait.length = d.D.wait.length + k := fun k hk h0 => by
        have := wrsF_keep ((wsC g t).take k) d.D ok h0
        rw [List.length_take, hwsl, Nat.min_eq_left hk] at this
        exact this
      have hokk : ∀ k, (wrsF d.D ((wsC g t).take k)).2.Ok := fun k => wrsF_ok _ _ ok
      refine goA ?_
      refine t_for (α := Nat × Dk) (fun y => [(0, .pointer (some ⟨bn, 0, none⟩)), (1, .pointer (some ⟨bl, 0, none⟩)), (2, .pointer (some ⟨bt, 0, none⟩)), (3, .int .i64 0), (27, .slice (some ⟨xb, 0, none⟩) (needF t.length) xc), (28, .int .i64 (needF t.length)), (29, .int .i64 y.1)]) (fun y => y.1 ≤ needF t.length ∧ (wrsF d.D ((wsC g t).take y.1)).1 = 0 ∧ dkOf d (wrsF d.D ((wsC g t).take y.1)).2 y.2) (fun y => [dkI y.2, own 163 3 (some (xb, xc)) (needF t.length) (shtsV (pcsL g.next t)), lgI b d g, pt bn (.cells #[.int .i64 (needF t.length : Int)] 3 (0, 0)), boxI bl b, pt bt (.cells #[.string ⟨t.toArray⟩] 9 (0, 0)), ctI]) (fun y => needF t.length - y.1) (0, d) ⟨rfl, rfl, rfl, rfl, rfl, rfl, rfl, trivial⟩ ⟨Nat.zero_le _, rfl, rfl, rfl, rfl⟩ (fun w hw => hw.pick [5, 0, 1, 2, 3, 4, 6] rfl rfl) fun ⟨k, d1⟩ ⟨hk, h0, hd1⟩ => ?_
      simp only at hk h0 hd1 ⊢
      by_cases hkn : k < needF t.length
      · have hst := hstep k hkn
        rw [if_pos h0] at hst
        obtain ⟨hkp, hwt⟩ := hkeepk k (by omega) h0
        have hokd := hokk k
        have hokd2 := hokk (k + 1)
        have hbad2 := hbad (k + 1)
        generalize wrsF d.D ((wsC g t).take k) = r at *
        obtain ⟨hd1a, hd1b, hd1c⟩ := hd1
        rw [← hd1c] at hkp hwt hokd hst
        have hlen : k < (pcsL g.next t).length := by rw [pcsL_len]; exact hkn
        have hgk : (pcsL g.next t)[k]'hlen = pcS g.next t k := by simp [pcsL]
        have hrow : ∀ {m : List Eng.Item} {w2 : World} {F2 : Nat → Prop} (w' : World), Hp w2 F2 m w' → own 163 3 (some (xb, xc)) (needF t.length) (shtsV (pcsL g.next t)) ∈ m → w'.rangeAt xb (0 + k * 3) (shtA (pcS g.next t k)).toList := fun w' hw' hm => by
          have := Rd.row (enc := fun s => (shtA s).toList) (sz := 3) (fun _ => rfl) (rangeAt_own (hw'.item _ hm).1) hlen
          rw [hgk] at this
          exact this
        refine goA ?_
        refine l_w rfl (v_loadcE (c := shtA (pcS g.next t k)) rfl rfl (fun w' hw' => hrow w' hw' (.tail _ (.head _))) rfl) ?_
        refine goA ?_
        refine l_alloca rfl rfl fun b5 hb5 => ?_
        refine l_op rfl (o_storea (cs' := shtA (pcS g.next t k)) rfl rfl rfl rfl rfl rfl) fun _ => ?_
        refine goA ?_
        have hsq : (pcS g.next t k).seq = g.next + k := rfl
        refine l_ctg rfl rfl (by kernel_rfl) rfl (fun w1 hw1 => shput_calls (pcS g.next t k) (by omega) (pcS_len _ _ _) w1 (hw1.item ctI (by simp)).1) fun x hx => ?_
        refine l_fact (fun w hw => (own_val (hw.item (own 5 1 x 512 (bytesV (shtP (pcS g.next t k)))) (.head _)).1)) fun ⟨hsl, hcap⟩ => ?_
        rw [hsl]
        refine goA ?_
        refine t_pick [2, 0, 1, 3, 4, 5, 6, 7, 8] rfl rfl ?_
        refine t_drawm [1, 2, 3, 4, 5, 6, 7, 8] 15 rfl rfl (by kernel_rfl) ?_
        refine goE ?_
        refine d_opg 11 ⟨by kernel_rfl, by decide⟩ rfl rfl (o_pure rfl (by kernel_rfl) rfl (fun w1 hw1 => place_calls (g.next + k) g.h.secs (by omega) hs0 (by omega) w1)) (fun _ _ h => goH h) fun _ => ?_
        refine goE ?_
        rw [← hd1a]
        have hpl : placeF (g.next + k) g.h.secs < 9223372036854775808 := by
          unfold placeF
          have := Nat.mod_lt (g.next + k) hs0
          omega
        simp only [hsq]
        refine d_opg 13 ⟨by kernel_rfl, by decide⟩ rfl rfl (o_cu (pre := [dkI d1]) rfl (by kernel_rfl) rfl (by intro it hm; rcases hm with _ | ⟨_, hm⟩ <;> first | exact bundle_stable _ | exact (nomatch hm)) (fun w1 hw1 hh1 ha1 => dwriteE d1 hokd (by rw [hkp]; exact hkl) (by rw [hwt]; omega) _ hpl (shtP (pcS g.next t k)) 512 (shtP_len (pcS_len _ _ _)) (slA x) (slC x) (by decide) w1 hh1 (fun w2 hw2 => own_Rd (hw1.still (.head _) (own_stable _ _ _ _ _ _) hw2)))) (fun _ _ h => goH h) fun ⟨d2, hd2⟩ => ?_
        refine goE ?_
        refine d_end (by kernel_rfl) ?_
        dsimp only
        rw [← hst] at hd2 ⊢
        have hok2 : dkOf d (wrsF d.D ((wsC g t).take (k + 1))).2 d2 := ⟨hd2.1.trans hd1a, hd2.2.1.trans hd1b, hd2.2.2⟩
        refine goA ?_
        by_cases he : (wrsF d.D ((wsC g t).take (k + 1))).1 = 0
        · have hne : (((wrsF d.D ((wsC g t).take (k + 1))).1 : Int) != 0) = false := by simp [he]
          rw [hne]
          refine goA ?_
          exact x_round (k + 1, d2) ⟨rfl, rfl, rfl, rfl, rfl, rfl, rfl, trivial⟩ ⟨hkn, he, hok2⟩ (fun w hw => by exact hw.pick [0, 3, 4, 5, 6, 7, 8] rfl rfl) (by show needF t.length - (k + 1) < needF t.length - k; omega)
        · have hne : (((wrsF d.D ((wsC g t).take (k + 1))).1 : Int) != 0) = true := by simp [he]
          rw [hne]
          have hcm2 := hbad2 he
          rw [hcmg, hcm, hcm2, if_neg he]
          refine goA ?_
          have hlg : ∀ g : Lg, lgI b d g = lgI b d2 g := fun g => by unfold lgI lgA; rw [hok2.1]
          exact x_imp (m' := cmL b bn bl bt (needF t.length) t d2 g) (fun w' hw' => by unfold cmL; rw [← hlg]; exact hw'.pick [4, 5, 6, 7, 0, 8] rfl rfl) (x_ct d2 rfl rfl rfl hok2 (.refl _) (cmL_stable _ _ _ _ _ _ _ _))
      · obtain rfl : k = needF t.length := by omega
        rw [hdone] at h0 hd1
        have hkk := hkeepk (needF t.length) (Nat.le_refl _) (by rw [hdone]; exact h0)
        rw [hdone] at hkk
        have hokd := wrsF_ok (wsC g t) d.D ok
        have hbt : batF d.D (wsC g t) = flushG (wrsF d.D (wsC g t)).2 := by rw [batF, if_pos h0]
        rw [hbt] at hcm
        generalize wrsF d.D (wsC g t) = r at *
        obtain ⟨hd1a, hd1b, hd1c⟩ := hd1
        rw [← hd1c] at hkk hokd hcm
        refine goA ?_
        rw [← hd1a]
        refine l_opg rfl (o_cu (pre := [dkI d1]) rfl (by kernel_rfl) rfl (by intro it hm; rcases hm with _ | ⟨_, hm⟩ <;> first | exact bundle_stable _ | exact (nomatch hm)) (fun w1 hw1 hh1 ha1 => flush_calls d1 hokd (by rw [hkk.1]; exact hkl) (by rw [hkk.2]; omega) w1 hh1)) fun ⟨d2, hd2⟩ => ?_
        dsimp only
        rw [hcm]
        rw [hcmg, hcm]
        generalize flushG d1.D = r2 at *
        have hok2 : dkOf d r2.2 d2 := ⟨hd2.1.trans hd1a, hd2.2.1.trans hd1b, hd2.2.2⟩
        have hlg : ∀ g : Lg, lgI b d g = lgI b d2 g := fun g => by unfold lgI lgA; rw [hok2.1]
        refine goA ?_
        by_cases he : r2.1 = 0
        · rw [if_pos he, he]
          obtain ⟨gh, gat, gnx, gus, gde⟩ := g
          simp only at hnx hus hg hs0 hsecs ⊢
          refine goA ?_
          refine t_pick [2, 3, 4, 5, 0, 6] rfl rfl ?_
          refine t_drawm [1, 2, 3, 4, 5] 10 rfl rfl (by kernel_rfl) ?_
          (repeat first | (apply d_w [3] rfl rfl rfl (by kernel_rfl) (fun _ h => by first | exact h | exact Hp.sub h (.cons _ (.refl _)) | exact Hp.sub h (.cons _ (.cons _ (.refl _))) | exact Hp.sub h (.cons _ (.cons _ (.cons _ (.refl _)))) | exact Hp.sub h (.cons _ (.cons _ (.cons _ (.cons _ (.refl _))))) | exact Hp.sub h (.cons _ (.cons _ (.cons _ (.cons _ (.cons _ (.refl _)))))) | exact Hp.sub h (.cons _ (.cons _ (.cons _ (.cons _ (.cons _ (.cons _ (.refl _))))))) | exact Hp.sub h (.cons_cons _ (.cons_cons _ (List.nil_sublist _))) | exact Hp.sub h (.cons _ (.cons_cons _ (.cons_cons _ (List.nil_sublist _))))); focus (first | exact v_move rfl | exact v_assign rfl | exact v_bt rfl rfl | exact v_extract rfl rfl | exact v_field0 rfl rfl | exact v_field rfl rfl | exact v_lens rfl rfl | exact v_lenstr rfl rfl | exact v_nt rfl | exact v_load1p rfl rfl (by repeat first | exact .head _ | apply List.Mem.tail) | exact v_loadn rfl rfl (by repeat first | exact .head _ | apply List.Mem.tail) rfl | exact v_loadp rfl rfl (by repeat first | exact .head _ | apply List.Mem.tail) rfl | exact v_loada rfl rfl (by repeat first | exact .head _ | apply List.Mem.tail) | exact v_eqb rfl rfl rfl | exact v_slA rfl rfl rfl | exact v_builds rfl rfl rfl rfl rfl | exact v_eqs rfl rfl | exact v_nc rfl | exact v_caps rfl rfl | exact v_eqpn rfl rfl rfl | exact v_nepn rfl rfl rfl | exact v_neps rfl rfl rfl rfl | ((first | refine v_bn rfl rfl ?_ | refine v_is1 rfl rfl rfl ?_ | refine v_ia1 rfl rfl rfl ?_ | refine v_sa rfl rfl rfl ?_ | refine v_sF rfl rfl rfl ?_ | refine v_sT rfl rfl rfl ?_ | refine v_sFT rfl rfl rfl rfl ?_ | refine v_lF rfl rfl rfl rfl ?_ | refine v_is rfl rfl rfl ?_ | refine v_ia rfl rfl rfl ?_ | refine v_lT rfl rfl rfl rfl ?_ | refine v_cv rfl rfl rfl ?_ | refine v_slLH rfl rfl rfl rfl rfl ?_ | refine v_sl3 rfl rfl rfl rfl rfl ?_); first | omega | assumption) | exact v_pT rfl rfl (by first | omega | assumption | (simp; done) | exact fun h => h (by assumption) | fail) | exact v_pF rfl rfl (by first | omega | assumption | (simp; done) | exact fun h => h (by assumption) | fail) | exact v_pickB rfl rfl rfl)) | refine d_no [3] rfl rfl rfl (by kernel_rfl) (fun _ h => by first | exact h | exact Hp.sub h (.cons _ (.refl _)) | exact Hp.sub h (.cons _ (.cons _ (.refl _))) | exact Hp.sub h (.cons _ (.cons _ (.cons _ (.refl _)))) | exact Hp.sub h (.cons _ (.cons _ (.cons _ (.cons _ (.refl _))))) | exact Hp.sub h (.cons _ (.cons _ (.cons _ (.cons _ (.cons _ (.refl _)))))) | exact Hp.sub h (.cons _ (.cons _ (.cons _ (.cons _ (.cons _ (.cons _ (.refl _))))))) | exact Hp.sub h (.cons_cons _ (.cons_cons _ (List.nil_sublist _))) | exact Hp.sub h (.cons _ (.cons_cons _ (.cons_cons _ (List.nil_sublist _))))) ?_ | refine d_T [3] rfl rfl rfl rfl (by first | omega | assumption | (simp; done) | exact fun h => h (by assumption) | fail) ?_ | refine d_F [3] rfl rfl rfl rfl (by first | omega | assumption | (simp; done) | exact fun h => h (by assumption) | fail) ?_)
          refine d_opg 3 ⟨by kernel_rfl, by decide⟩ rfl rfl (o_val rfl (v_loadp rfl rfl (.head _) rfl)) (fun _ _ h => goH h) fun _ => ?_
          refine goE ?_
          refine d_v [7] rfl rfl (by kernel_rfl) (fun _ h => by first | exact h | exact Hp.sub h (.cons _ (.refl _)) | exact Hp.sub h (.cons _ (.cons _ (.refl _))) | exact Hp.sub h (.cons _ (.cons _ (.cons _ (.refl _)))) | exact Hp.sub h (.cons _ (.cons _ (.cons _ (.cons _ (.refl _))))) | exact Hp.sub h (.cons _ (.cons _ (.cons _ (.cons _ (.cons _ (.refl _)))))) | exact Hp.sub h (.cons _ (.cons _ (.cons _ (.cons _ (.cons _ (.cons _ (.refl _))))))) | exact Hp.sub h (.cons_cons _ (.cons_cons _ (List.nil_sublist _))) | exact Hp.sub h (.cons _ (.cons_cons _ (.cons_cons _ (List.nil_sublist _))))) rfl rfl (v_addUw (a := gnx) (b := needF t.length) rfl rfl) ?_
          refine d_say 72 _ (.int .u64 ((gnx + needF t.length : Nat) : Int)) rfl (by rw [Nat.mod_eq_of_lt hnx]) ?_
          refine goE ?_
          refine d_opg 9 ⟨by kernel_rfl, by decide⟩ rfl rfl (o_store1 rfl rfl rfl rfl rfl rfl (show (6 : Nat) < 9 from by decide)) (fun _ _ h => goH h) fun _ => ?_
          refine d_end (by kernel_rfl) ?_
          refine goA ?_
          refine t_drawm [1, 2, 3, 4, 5] 9 rfl rfl (by kernel_rfl) ?_
          (repeat first | (apply d_w [3] rfl rfl rfl (by kernel_rfl) (fun _ h => by first | exact h | exact Hp.sub h (.cons _ (.refl _)) | exact Hp.sub h (.cons _ (.cons _ (.refl _))) | exact Hp.sub h (.cons _ (.cons _ (.cons _ (.refl _)))) | exact Hp.sub h (.cons _ (.cons _ (.cons _ (.cons _ (.refl _))))) | exact Hp.sub h (.cons _ (.cons _ (.cons _ (.cons _ (.cons _ (.refl _)))))) | exact Hp.sub h (.cons _ (.cons _ (.cons _ (.cons _ (.cons _ (.cons _ (.refl _))))))) | exact Hp.sub h (.cons_cons _ (.cons_cons _ (List.nil_sublist _))) | exact Hp.sub h (.cons _ (.cons_cons _ (.cons_cons _ (List.nil_sublist _))))); focus (first | exact v_move rfl | exact v_assign rfl | exact v_bt rfl rfl | exact v_extract rfl rfl | exact v_field0 rfl rfl | exact v_field rfl rfl | exact v_lens rfl rfl | exact v_lenstr rfl rfl | exact v_nt rfl | exact v_load1p rfl rfl (by repeat first | exact .head _ | apply List.Mem.tail) | exact v_loadn rfl rfl (by repeat first | exact .head _ | apply List.Mem.tail) rfl | exact v_loadp rfl rfl (by repeat first | exact .head _ | apply List.Mem.tail) rfl | exact v_loada rfl rfl (by repeat first | exact .head _ | apply List.Mem.tail) | exact v_eqb rfl rfl rfl | exact v_slA rfl rfl rfl | exact v_builds rfl rfl rfl rfl rfl | exact v_eqs rfl rfl | exact v_nc rfl | exact v_caps rfl rfl | exact v_eqpn rfl rfl rfl | exact v_nepn rfl rfl rfl | exact v_neps rfl rfl rfl rfl | ((first | refine v_bn rfl rfl ?_ | refine v_is1 rfl rfl rfl ?_ | refine v_ia1 rfl rfl rfl ?_ | refine v_sa rfl rfl rfl ?_ | refine v_sF rfl rfl rfl ?_ | refine v_sT rfl rfl rfl ?_ | refine v_sFT rfl rfl rfl rfl ?_ | refine v_lF rfl rfl rfl rfl ?_ | refine v_is rfl rfl rfl ?_ | refine v_ia rfl rfl rfl ?_ | refine v_lT rfl rfl rfl rfl ?_ | refine v_cv rfl rfl rfl ?_ | refine v_slLH rfl rfl rfl rfl rfl ?_ | refine v_sl3 rfl rfl rfl rfl rfl ?_); first | omega | assumption) | exact v_pT rfl rfl (by first | omega | assumption | (simp; done) | exact fun h => h (by assumption) | fail) | exact v_pF rfl rfl (by first | omega | assumption | (simp; done) | exact fun h => h (by assumption) | fail) | exact v_pickB rfl rfl rfl)) | refine d_no [3] rfl rfl rfl (by kernel_rfl) (fun _ h => by first | exact h | exact Hp.sub h (.cons _ (.refl _)) | exact Hp.sub h (.cons _ (.cons _ (.refl _))) | exact Hp.sub h (.cons _ (.cons _ (.cons _ (.refl _)))) | exact Hp.sub h (.cons _ (.cons _ (.cons _ (.cons _ (.refl _))))) | exact Hp.sub h (.cons _ (.cons _ (.cons _ (.cons _ (.cons _ (.refl _)))))) | exact Hp.sub h (.cons _ (.cons _ (.cons _ (.cons _ (.cons _ (.cons _ (.refl _))))))) | exact Hp.sub h (.cons_cons _ (.cons_cons _ (List.nil_sublist _))) | exact Hp.sub h (.cons _ (.cons_cons _ (.cons_cons _ (List.nil_sublist _))))) ?_ | refine d_T [3] rfl rfl rfl rfl (by first | omega | assumption | (simp; done) | exact fun h => h (by assumption) | fail) ?_ | refine d_F [3] rfl rfl rfl rfl (by first | omega | assumption | (simp; done) | exact fun h => h (by assumption) | fail) ?_)
          refine d_opg 3 ⟨by kernel_rfl, by decide⟩ rfl rfl (o_val rfl (v_loadp rfl rfl (.head _) rfl)) (fun _ _ h => goH h) fun _ => ?_
          refine d_say 78 _ (.int .i64 (gus : Int)) rfl rfl ?_
          refine goE ?_
          refine d_opg 8 ⟨by kernel_rfl, by decide⟩ rfl rfl (o_store1 rfl rfl rfl rfl rfl rfl (show (7 : Nat) < 9 from by decide)) (fun _ _ h => goH h) fun _ => ?_
          refine d_end (by kernel_rfl) ?_
          refine goA ?_
          exact x_imp (m' := cmL b bn bl bt (needF t.length) t d2 ⟨gh, gat, gnx + needF t.length, gus + needF t.length, gde⟩) (fun w' hw' => by unfold cmL; rw [← hlg]; exact hw') (x_ct d2 rfl rfl rfl hok2 (.refl _) (cmL_stable _ _ _ _ _ _ _ _))
        · have hne : ((r2.1 : Int) != 0) = true := by simp [he]
          rw [hne, if_neg he]
          refine goA ?_
          exact x_imp (m' := cmL b bn bl bt (needF t.length) t d2 g) (fun w' hw' => by unfold cmL; rw [← hlg]; exact hw'.pick [2, 3, 4, 5, 0, 6] rfl rfl) (x_ct d2 rfl rfl rfl hok2 (.refl _) (cmL_stable _ _ _ _ _ _ _ _))
end Go.Proofs.YtplhamichcnmmaaGreatDoor

namespace Go.Proofs.YtplhamichcnmmaaGreatDoor
open Go.RowKit Go.Eng
set_option maxRecDepth 100000
set_option maxHeartbeats 40000000
theorem lgcommit_calls (b : Nat) (t : Bys) (d : Dk) (g : Lg) (ok : d.D.Ok) (hkl : d.D.keep.length ≤ 1000000) (hwl : d.D.wait.length + needF t.length ≤ 1000000) (ht : t.length ≤ 1000000000) (hg : g.h.Ok) (hs0 : 0 < g.h.secs) (hus : g.used ≤ g.h.secs) (hnx : g.next + needF t.length < 18446744073709551616) (hdead : g.dead = false) (w : World)
    (hw : ∀ it ∈ [lgI b d g, dkI d, ctI], Here it w) (ha : [lgI b d g, dkI d, ctI].Pairwise Eng.Item.Apart) :
    Ct Tryz.prog 77 #[.pointer (some ⟨b, 0, none⟩), .string ⟨t.toArray⟩] w (foots [lgI b d g, dkI d, ctI]) (fun _ : Dk => .int .i64 ((cmtF d.D g t).1 : Nat)) (dkOf d (cmtF d.D g t).2) (fun d' => [lgI b d' { cmtG d.D g t with dead := decide ((cmtF d.D g t).1 = 4) }, dkI d', ctI]) := by
  refine cu_of [_, _] _ Tryz.func77 rfl rfl hw ha ?_
  simp only [argSlots, Nat.reduceAdd]
  refine goA ?_
  refine l_box1 rfl rfl rfl fun bl _ => ?_
  refine l_box1 rfl rfl rfl fun bt _ => ?_
  refine goA ?_
  refine l_opg rfl (o_pure rfl (by kernel_rfl) rfl (fun w1 hw1 => need_calls t.length ht w1)) fun _ => ?_
  refine goA ?_
  refine l_alloc1 rfl rfl rfl fun bn hbn => ?_
  refine l_op rfl (o_store1 rfl rfl rfl rfl rfl rfl (by simp)) fun _ => ?_
  refine goA ?_
  refine l_w rfl (v_mkf rfl) ?_
  refine l_pick [3, 0, 2, 1, 4, 5] rfl rfl ?_
  have hst := cmL_stable b bn bl bt (needF t.length) t
  refine l_opg rfl (o_cu (pre := cmL b bn bl bt (needF t.length) t d g) (m := []) rfl (by kernel_rfl) rfl (hst d g) (fun w1 hw1 hh1 ha1 => does_calls (f := 116) (cs := [.pointer (some ⟨bn, 0, none⟩), .pointer (some ⟨bl, 0, none⟩), .pointer (some ⟨bt, 0, none⟩)]) (by kernel_rfl) b d g hdead (cmL b bn bl bt (needF t.length) t d g).tail (fun _ : Dk => (cmtF d.D g t).1) (dkOf d (cmtF d.D g t).2) (fun d' => d') (fun _ => cmtG d.D g t) (fun d' => (cmL b bn bl bt (needF t.length) t d' g).tail) (fun it hm => hst d g it (.tail _ hm)) (fun d' it hm => hst d' g it (.tail _ hm)) (fun w2 hh2 ha2 => commit1_calls b bn bl bt t d g ok hkl hwl ht hg hs0 hus hnx w2 hh2 ha2) w1 hh1 ha1)) fun ⟨d', hd'⟩ => ?_
  refine goA ?_
  exact x_ct d' rfl rfl rfl hd' (.cons_cons _ (.cons _ (.cons _ (.cons _ (.refl _))))) (fun it hm => hst d' _ it (by
    rcases hm with _ | ⟨_, hm⟩
    · exact .head _
    · exact .tail _ (.tail _ (.tail _ (.tail _ hm)))))
end Go.Proofs.YtplhamichcnmmaaGreatDoor
