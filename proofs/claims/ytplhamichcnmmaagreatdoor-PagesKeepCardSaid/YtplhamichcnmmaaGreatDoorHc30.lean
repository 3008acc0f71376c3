/- package pages: out. -/
import Derived.Test.YtplhamichcnmmaaGreatDoorHc29
namespace Go.Eng
open Go.RowKit
theorem v_mkb {P : Program} {l : Slots} {H : World → Prop} {ty : TypeId} {f : FuncId} {xs : List Operand} {vs : List Value} (hx : evs l xs = some vs) : OV P (.makeFunc (.func f) xs.toArray #[]) ty l H (.func (.func f) vs.toArray #[]) := ov fun _ _ _ w _ => by
  simp only [execOp, List.map_toArray, evs_map hx]
  rfl
end Go.Eng
namespace Go.Proofs.YtplhamichcnmmaaGreatDoor
open Go.RowKit Go.Eng
set_option maxRecDepth 100000
set_option maxHeartbeats 40000000
theorem toB_keys (R : List Nat) : keysN (toB R) = R := by simp [keysN, toB, Function.comp_def]
def wsD (s : Pg) : List (Nat × Bys) := (dirtyP s.K s.R).map fun p => (2 + s.g.h.secs + p.1, p.2)
def outF (s : Pg) (D : Dsk) : Nat × Dsk × Lg :=
  if (batF D (wsD s)).1 = 0 then ((writeHF (batF D (wsD s)).2 (otherF s.g.at_) (trimH s.g)).1, (writeHF (batF D (wsD s)).2 (otherF s.g.at_) (trimH s.g)).2, { trimG s.g (batF D (wsD s)).2 with dead := decide ((writeHF (batF D (wsD s)).2 (otherF s.g.at_) (trimH s.g)).1 = 4) })
  else ((batF D (wsD s)).1, (batF D (wsD s)).2, s.g)
def outS (s : Pg) (D : Dsk) : Pg := { s with g := (outF s D).2.2, R := if (outF s D).1 = 0 then [] else s.R }
theorem pdc_stable (s : Pg) (d : Dk) : ∀ it ∈ [pgI s d, dkI d, ctI], it.Stable none' := by
  intro it hm
  rcases hm with _ | ⟨_, _ | ⟨_, _ | ⟨_, hm⟩⟩⟩
  · exact pgI_stable s d
  · exact bundle_stable _
  · exact ctI_stable _
  · exact nomatch hm
theorem flush_keep {D : Dsk} (h : (flushG D).1 = 0) : (flushG D).2.keep = D.keep ∧ (flushG D).2.wait = [] := by
  unfold flushG at h ⊢
  split at h
  · cases h
  · rename_i hd
    rw [if_neg hd]
    by_cases ha : (actF D).1 = 0
    · rw [if_pos ha]
      exact ⟨(act_wait ha).2.2.2, rfl⟩
    · rw [if_neg ha] at h
      exact absurd h ha
abbrev ouT (s : Pg) : List ((Dk × Lg → Nat) × (Dk × Lg → Dk × Lg → Prop)) :=
  [(fun x => (wrsF x.1.D (wsD s)).1, fun x x' => dkOf x.1 (wrsF x.1.D (wsD s)).2 x'.1 ∧ x'.2 = x.2),
   (fun x => (flushG x.1.D).1, fun x x' => dkOf x.1 (flushG x.1.D).2 x'.1 ∧ x'.2 = x.2),
   (fun x => (writeHF x.1.D (otherF x.2.at_) (trimH x.2)).1, fun x x' => dkOf x.1 (writeHF x.1.D (otherF x.2.at_) (trimH x.2)).2 x'.1 ∧ x'.2 = { trimG x.2 x.1.D with dead := decide ((writeHF x.1.D (otherF x.2.at_) (trimH x.2)).1 = 4) })]
theorem dkOf.trans {d d' d2 : Dk} {D D' : Dsk} (h : dkOf d D d') (h2 : dkOf d' D' d2) : dkOf d D' d2 := ⟨h2.1.trans h.1, h2.2.1.trans h.2.1, h2.2.2⟩
theorem ou_all {s : Pg} {d : Dk} {x : Nat × (Dk × Lg)} (h : AllR (ouT s) (d, s.g) x) : x.1 = (outF s d.D).1 ∧ dkOf d (outF s d.D).2.1 x.2.1 ∧ x.2.2 = (outF s d.D).2.2 := by
  obtain ⟨⟨d1, g1⟩, ⟨h1, h2⟩, h⟩ := h
  simp only at h1 h2 h
  subst h2
  unfold outF batF
  by_cases e1 : (wrsF d.D (wsD s)).1 = 0
  · rw [if_pos e1] at h ⊢
    obtain ⟨⟨d2, g2⟩, ⟨h3, h4⟩, h⟩ := h
    simp only at h3 h4 h
    subst h4
    rw [h1.2.2] at h3 h
    by_cases e2 : (flushG (wrsF d.D (wsD s)).2).1 = 0
    · rw [if_pos e2] at h ⊢
      obtain ⟨⟨d3, g3⟩, ⟨h5, h6⟩, h⟩ := h
      simp only at h5 h6 h
      rw [h3.2.2] at h5 h6 h
      have hx : x = ((writeHF (flushG (wrsF d.D (wsD s)).2).2 (otherF s.g.at_) (trimH s.g)).1, (d3, g3)) := by
        by_cases e3 : (writeHF (flushG (wrsF d.D (wsD s)).2).2 (otherF s.g.at_) (trimH s.g)).1 = 0
        · rw [if_pos e3] at h
          rw [e3]; exact h
        · rw [if_neg e3] at h; exact h
      subst hx
      exact ⟨rfl, (h1.trans h3).trans h5, h6⟩
    · rw [if_neg e2] at h ⊢
      subst h
      exact ⟨rfl, h1.trans h3, rfl⟩
  · rw [if_neg e1] at h ⊢
    rw [if_neg e1]
    subst h
    exact ⟨rfl, h1, rfl⟩
def ouB (s : Pg) (lb : Nat) (A : PR) (bs bm : Nat) (x : Dk × Lg) : List Eng.Item := [pgC s x.1, sbI bs s.b, lgI s.bl x.1 x.2, mapN .i64 s.kb (toP s.K), mapN .i64 s.db (toB s.R), mapN .i64 s.cb (toP s.C), dkI x.1, mapN .i64 lb (toP A), mvI bm lb, ctI]
theorem ouB_stable (s : Pg) (lb : Nat) (A : PR) (bs bm : Nat) (x : Dk × Lg) : ∀ it ∈ ouB s lb A bs bm x, it.Stable none' := by
  intro it hm
  rcases hm with _ | ⟨_, _ | ⟨_, _ | ⟨_, _ | ⟨_, _ | ⟨_, _ | ⟨_, _ | ⟨_, _ | ⟨_, _ | ⟨_, _ | ⟨_, hm⟩⟩⟩⟩⟩⟩⟩⟩⟩⟩
  · exact pt_stable _ _ _
  · exact pt_stable _ _ _
  · exact pt_stable _ _ _
  · exact mapN_stable _ _ _ _
  · exact mapN_stable _ _ _ _
  · exact mapN_stable _ _ _ _
  · exact bundle_stable _
  · exact mapN_stable _ _ _ _
  · exact pt_stable _ _ _
  · exact ctI_stable _
  · exact nomatch hm
def ouV (s : Pg) (d : Dk) (bs bm : Nat) : List (FuncId × List Value × List Value) := [(115, [], [.pointer (some ⟨bs, 0, none⟩), .pointer (some ⟨bm, 0, none⟩)]), (52, [.pointer (some ⟨d.b, 0, none⟩)], []), (53, [.pointer (some ⟨s.bl, 0, none⟩)], [])]
def ouI (s : Pg) (d : Dk) (k : Nat) (x : Dk × Lg) : Prop := match k with
  | 0 => x = (d, s.g)
  | 1 => dkOf d (wrsF d.D (wsD s)).2 x.1 ∧ (wrsF d.D (wsD s)).1 = 0 ∧ x.2 = s.g
  | 2 => dkOf d (flushG (wrsF d.D (wsD s)).2).2 x.1 ∧ (wrsF d.D (wsD s)).1 = 0 ∧ (flushG (wrsF d.D (wsD s)).2).1 = 0 ∧ x.2 = s.g
  | _ => True
theorem ou_step (s : Pg) (d : Dk) (lb : Nat) (A : PR) (bs bm : Nat) (ok : d.D.Ok) (hkl : d.D.keep.length ≤ 1000000) (hwl : d.D.wait.length ≤ 10000) (hn : s.n ≤ 1024) (hgo : s.g.h.Ok) (hnx : s.g.next < 18446744073709551616) (hat : s.g.at_ = 0 ∨ s.g.at_ = 1) (hgd : s.g.dead = false) (hA : A.Ok s.n) (hAl : A.length ≤ 1024) (hws : wsP s.g.h.secs A = wsD s) :
    ∀ (k : Nat) (f : FuncId × List Value × List Value) (t : (Dk × Lg → Nat) × (Dk × Lg → Dk × Lg → Prop)) (x : Dk × Lg), (ouV s d bs bm)[k]? = some f → (ouT s)[k]? = some t → ouI s d k x →
      hasBody Tryz.prog f.1 = true ∧ ∀ w, (∀ it ∈ ouB s lb A bs bm x, Here it w) → (ouB s lb A bs bm x).Pairwise Eng.Item.Apart → Ct Tryz.prog f.1 (f.2.1 ++ f.2.2).toArray w (foots (ouB s lb A bs bm x)) (fun _ : Dk × Lg => .int .i64 (t.1 x : Nat)) (t.2 x) (fun x' => ouB s lb A bs bm x') := by
  have hsecs := hgo.secs
  intro k f t x hf ht hI
  have hwsl : (wsD s).length ≤ 1024 := by rw [← hws, wsP, List.length_map, rowsS, List.length_map, srtN_len, List.length_map]; exact hAl
  have hok1 : (wrsF d.D (wsD s)).2.Ok := wrsF_ok _ _ ok
  have hst1 : ∀ d', ∀ it ∈ [dkI d', pgI s d', mapN .i64 lb (toP A), sbI bs s.b, mvI bm lb], it.Stable none' := by
    intro d' it hm
    rcases hm with _ | ⟨_, _ | ⟨_, _ | ⟨_, _ | ⟨_, _ | ⟨_, hm⟩⟩⟩⟩⟩
    · exact bundle_stable _
    · exact pgI_stable _ _
    · exact mapN_stable _ _ _ _
    · exact pt_stable _ _ _
    · exact pt_stable _ _ _
    · exact nomatch hm
  match k, hf, ht, hI with
  | 0, hf, ht, hI =>
    cases hf; cases ht
    have hI : x = (d, s.g) := hI
    subst hI
    refine ⟨by kernel_rfl, fun w hw ha => ?_⟩
    refine Ct.conv (fun d' => (d', s.g)) (pre2 := [dkI d, pgI s d, mapN .i64 lb (toP A), sbI bs s.b, mvI bm lb]) (rest := [ctI]) ?_ (hst1 d) (fun hh ha2 => out1_calls s d lb A bs bm ok hkl (by omega) hn hsecs hA w hh ha2) (fun _ _ => by rw [hws]) (fun d' hd' => ⟨by rw [← hws]; exact hd', rfl⟩) (ouB_stable s lb A bs bm) (fun d' w' _ h => ?_)
    · have h := Hp.begin hw ha _ (fun _ h => h)
      exact (pg_close (s := s) (m := [sbI bs s.b, dkI d, mapN .i64 lb (toP A), mvI bm lb, ctI]) (h.pick [0, 2, 3, 4, 5, 1, 6, 7, 8, 9] rfl rfl)).pick [2, 0, 3, 1, 4, 5] rfl rfl
    · exact (pg_open (s := s) (m := [sbI bs s.b, dkI d', mapN .i64 lb (toP A), mvI bm lb, ctI]) (h.pick [1, 3, 0, 2, 4, 5] rfl rfl)).pick [0, 5, 1, 2, 3, 4, 6, 7, 8, 9] rfl rfl
  | 1, hf, ht, hI =>
    cases hf; cases ht
    obtain ⟨d1, g1⟩ := x
    obtain ⟨hd1, e1, rfl⟩ : dkOf d (wrsF d.D (wsD s)).2 d1 ∧ (wrsF d.D (wsD s)).1 = 0 ∧ g1 = s.g := hI
    have hk1 := wrsF_keep (wsD s) d.D ok e1
    refine ⟨by kernel_rfl, fun w hw ha => ?_⟩
    have hb := hd1.1
    have hDD := hd1.2.2
    refine Ct.conv (fun d' => (d', s.g)) (pre2 := [dkI d1]) (rest := [pgC s d1, sbI bs s.b, lgI s.bl d1 s.g, mapN .i64 s.kb (toP s.K), mapN .i64 s.db (toB s.R), mapN .i64 s.cb (toP s.C), mapN .i64 lb (toP A), mvI bm lb, ctI]) ?_ (by intro it hm; rcases hm with _ | ⟨_, hm⟩ <;> first | exact bundle_stable _ | exact (nomatch hm)) (fun hh ha2 => by
      have := flush_calls d1 (by rw [hDD]; exact hok1) (by rw [hDD, hk1.1]; exact hkl) (by rw [hDD, hk1.2]; omega) w hh
      rw [hb] at this
      exact this) (fun _ _ => rfl) (fun d' hd' => ⟨hd', rfl⟩) (ouB_stable s lb A bs bm) (fun d' w' hd' h => ?_)
    · exact (Hp.begin hw ha _ (fun _ h => h)).pick [6, 0, 1, 2, 3, 4, 5, 7, 8, 9] rfl rfl
    · have e : pgC s d1 = pgC s d' := by unfold pgC pgA; rw [hd'.1]
      have e2 : lgI s.bl d1 s.g = lgI s.bl d' s.g := by unfold lgI lgA; rw [hd'.1]
      rw [e, e2] at h
      exact h.pick [1, 2, 3, 4, 5, 6, 0, 7, 8, 9] rfl rfl
  | 2, hf, ht, hI =>
    cases hf; cases ht
    obtain ⟨d1, g1⟩ := x
    obtain ⟨hd1, e1, e2, rfl⟩ : dkOf d (flushG (wrsF d.D (wsD s)).2).2 d1 ∧ (wrsF d.D (wsD s)).1 = 0 ∧ (flushG (wrsF d.D (wsD s)).2).1 = 0 ∧ g1 = s.g := hI
    have hk1 := wrsF_keep (wsD s) d.D ok e1
    have hk2 := flush_keep e2
    have hDD := hd1.2.2
    refine ⟨by kernel_rfl, fun w hw ha => ?_⟩
    refine Ct.conv (fun d' => (d', { trimG s.g d1.D with dead := decide ((writeHF d1.D (otherF s.g.at_) (trimH s.g)).1 = 4) })) (pre2 := [lgI s.bl d1 s.g, dkI d1, ctI]) (rest := [pgC s d1, sbI bs s.b, mapN .i64 s.kb (toP s.K), mapN .i64 s.db (toB s.R), mapN .i64 s.cb (toP s.C), mapN .i64 lb (toP A), mvI bm lb]) ?_ (by intro it hm; rcases hm with _ | ⟨_, hm⟩ <;> first | exact pt_stable _ _ _ | exact dc_stable d1 it hm) (fun hh ha2 => trim_calls s.bl d1 s.g (by rw [hDD]; exact flushG_ok hok1) (by rw [hDD, hk2.1, hk1.1]; exact hkl) (by rw [hDD, hk2.2]; decide) hgo hnx hat hgd w hh ha2) (fun _ _ => rfl) (fun d' hd' => ⟨hd', rfl⟩) (ouB_stable s lb A bs bm) (fun d' w' hd' h => ?_)
    · exact (Hp.begin hw ha _ (fun _ h => h)).pick [2, 6, 9, 0, 1, 3, 4, 5, 7, 8] rfl rfl
    · have e : pgC s d1 = pgC s d' := by unfold pgC pgA; rw [hd'.1]
      rw [e] at h
      exact h.pick [3, 4, 0, 5, 6, 7, 1, 8, 9, 2] rfl rfl
  | k + 3, hf, _, _ => cases hf
theorem out_calls (s : Pg) (d : Dk) (ok : d.D.Ok) (hkl : d.D.keep.length ≤ 1000000) (hwl : d.D.wait.length ≤ 10000) (hn : s.n ≤ 1024) (hgo : s.g.h.Ok) (hnx : s.g.next < 18446744073709551616) (hat : s.g.at_ = 0 ∨ s.g.at_ = 1) (hgd : s.g.dead = false) (hK : s.K.Ok s.n) (hRK : ∀ i ∈ s.R, ∃ b, s.K.lookup i = some b) (hRl : s.R.length ≤ 1024) (w : World)
    (hw : ∀ it ∈ [pgI s d, dkI d, ctI], Here it w) (ha : [pgI s d, dkI d, ctI].Pairwise Eng.Item.Apart) :
    Ct Tryz.prog 76 #[.pointer (some ⟨s.b, 0, none⟩)] w (foots [pgI s d, dkI d, ctI]) (fun _ : Dk => .int .i64 ((outF s d.D).1 : Nat)) (dkOf d (outF s d.D).2.1) (fun d' => [pgI (outS s d.D) d', dkI d', ctI]) := by
  refine cu_of [_] _ Tryz.func76 rfl rfl hw ha ?_
  have hsecs := hgo.secs
  simp only [argSlots]
  refine goA ?_
  refine l_box1 rfl rfl rfl fun bs _ => ?_
  refine goA ?_
  refine l_op rfl (o_makemapN (q := .i64) rfl) fun ⟨lb, hlb⟩ => ?_
  refine goA ?_
  refine l_alloc1 rfl rfl rfl fun bm hbm => ?_
  refine l_op rfl (o_store1 rfl rfl rfl rfl rfl rfl (by simp)) fun _ => ?_
  refine l_imp (m' := pgL s d ++ [dkI d, ctI, mapN .i64 lb [], sbI bs s.b, mvI bm lb]) (fun w' hw' => pg_open (m := [dkI d, ctI, mapN .i64 lb [], sbI bs s.b, mvI bm lb]) (hw'.pick [3, 4, 5, 1, 2, 0] rfl rfl)) ?_
  unfold pgL
  refine l_fact (fun w hw => keysN_nodup (hw.item (mapN .i64 s.db (toB s.R)) (by simp)).1) fun hnd => ?_
  rw [toB_keys] at hnd
  refine goA ?_
  refine l_say 11 _ (.map (some s.db)) rfl rfl ?_
  refine l_pick [3, 0, 1, 2, 4, 5, 6, 7, 8, 9] rfl rfl ?_
  refine l_op rfl (o_rangeN rfl rfl rfl) fun ⟨r, hr⟩ => ?_
  refine goA ?_
  refine t_for (α := NRows × List Nat × Option (Nat × Value)) (fun y => [(1, .pointer (some ⟨bs, 0, none⟩)), (3, .pointer (some ⟨bm, 0, none⟩)), (12, .pointer (some ⟨r, 0, none⟩))]) (fun y => y.1 = (toB s.R).filter (fun x => decide (x.1 ∉ y.2.1)) ∧ y.2.1.Nodup ∧ (∀ z ∈ y.2.1, z ∈ s.R)) (fun y => [itN .i64 r s.db (toB s.R) y.1 y.2.2, mapN .i64 lb (toP (kpP s.K y.2.1)), pgC s d, lgI s.bl d s.g, mapN .i64 s.kb (toP s.K), mapN .i64 s.cb (toP s.C), dkI d, ctI, sbI bs s.b, mvI bm lb]) (fun y => y.1.length) (toB s.R, [], none) ⟨rfl, rfl, rfl, trivial⟩ ⟨by show toB s.R = (toB s.R).filter (fun x => decide (x.1 ∉ ([] : List Nat))); exact (List.filter_eq_self.2 fun _ _ => by simp).symm, List.nodup_nil, (fun _ (h : _ ∈ ([] : List Nat)) => nomatch h)⟩ (fun w h => h.pick [0, 7, 1, 2, 3, 4, 5, 6, 8, 9] rfl rfl) fun ⟨L, k, c⟩ ⟨hL, hk, hkR⟩ => ?_
  simp only at hL hk hkR ⊢
  refine goA ?_
  refine l_op rfl (o_nextN rfl rfl) fun ⟨y, hyy⟩ => ?_
  cases y with
  | some p =>
    simp only at hyy ⊢
    have hpk : p.1 ∉ k ∧ p.1 ∈ s.R := by
      rw [hL] at hyy
      obtain ⟨h1, h2⟩ := List.mem_filter.1 hyy
      refine ⟨by simpa using h2, ?_⟩
      have : p.1 ∈ (toB s.R).map (·.1) := List.mem_map.2 ⟨p, h1, rfl⟩
      rw [show (toB s.R).map (·.1) = s.R from toB_keys s.R] at this
      exact this
    have hnd2 : (k ++ [p.1]).Nodup := by
      rw [List.nodup_append]
      refine ⟨hk, by simp, fun a ha b hb => ?_⟩
      rw [List.mem_singleton] at hb
      subst hb
      exact fun e => hpk.1 (e ▸ ha)
    have hmem2 : ∀ z ∈ k ++ [p.1], z ∈ s.R := fun z hz => by
      rcases List.mem_append.1 hz with hz | hz
      · exact hkR z hz
      · rw [List.mem_singleton] at hz; subst hz; exact hpk.2
    have hlt := outN_len hyy
    have hof := out_filter hL p
    obtain ⟨b, hb⟩ := hRK p.1 hpk.2
    have hpn := (hK _ (lookup_memG hb)).1
    have hki := kp_ins hpk.1 hb
    refine goA ?_
    refine l_w rfl (v_entryN rfl (.head _)) ?_
    refine goA ?_
    refine t_pick [1, 0, 2, 3, 4, 5, 6, 7, 8, 9] rfl rfl ?_
    refine t_drawm [1, 2, 3, 4, 5, 6, 7, 8, 9] 9 rfl rfl (by kernel_rfl) ?_
    refine goE ?_
    refine d_say 22 _ (.map (some s.kb)) rfl rfl ?_
    refine d_v [] rfl rfl (by kernel_rfl) (fun _ h => by first | exact h | exact Hp.sub h (.cons _ (.refl _)) | exact Hp.sub h (.cons _ (.cons _ (.refl _))) | exact Hp.sub h (.cons _ (.cons _ (.cons _ (.refl _)))) | exact Hp.sub h (.cons _ (.cons _ (.cons _ (.cons _ (.refl _))))) | exact Hp.sub h (.cons _ (.cons _ (.cons _ (.cons _ (.cons _ (.refl _)))))) | exact Hp.sub h (.cons _ (.cons _ (.cons _ (.cons _ (.cons _ (.cons _ (.refl _))))))) | exact Hp.sub h (.cons_cons _ (.cons_cons _ (List.nil_sublist _))) | exact Hp.sub h (.cons _ (.cons_cons _ (.cons_cons _ (List.nil_sublist _))))) rfl rfl (v_lookN1 (q := .i64) (h := p.1) (A := toP s.K) (b := s.kb) rfl rfl rfl rfl rfl (okI (by omega)) (by simp)) ?_
    rw [toP_lookup, hb]
    simp only [Option.map_some, Option.getD_some]
    refine d_opg 8 ⟨by kernel_rfl, by decide⟩ rfl rfl (o_mapupN (h := p.1) (v := pgV b) rfl rfl rfl rfl rfl rfl (okI (by omega))) (fun _ _ h => goH h) fun _ => ?_
    refine d_end (by kernel_rfl) ?_
    rw [← toP_ins, hki]
    refine goA ?_
    exact x_round (outN L p, k ++ [p.1], some p) ⟨rfl, rfl, rfl, trivial⟩ ⟨hof, hnd2, hmem2⟩ (fun w hw => hw.pick [1, 0, 2, 3, 4, 5, 6, 7, 8, 9] rfl rfl) hlt
  | none =>
    simp only at hyy ⊢
    subst hyy
    have hperm : k.Perm s.R := by
      refine (List.perm_ext_iff_of_nodup hk hnd).2 fun z => ⟨hkR z, fun hz => ?_⟩
      by_cases h : z ∈ k
      · exact h
      · have : (z, Value.bool true) ∈ (toB s.R).filter (fun x => decide (x.1 ∉ k)) := List.mem_filter.2 ⟨List.mem_map.2 ⟨z, hz, rfl⟩, by simpa using h⟩
        rw [← hL] at this
        exact nomatch this
    have hrows := kp_rows (K := s.K) hperm
    have hAok : (kpP s.K k).Ok s.n := fun p hp => by
      obtain ⟨i, hi, rfl⟩ := List.mem_map.1 hp
      obtain ⟨b, hb⟩ := hRK i (hkR i hi)
      rw [hb]
      exact hK _ (lookup_memG hb)
    have hAl : (kpP s.K k).length ≤ 1024 := by
      rw [kpP, List.length_map, hperm.length_eq]
      exact hRl
    have hws : wsP s.g.h.secs (kpP s.K k) = wsD s := by rw [wsP, hrows]; rfl
    generalize kpP s.K k = A at hAok hAl hws
    refine goA ?_
    refine l_w rfl (v_mkf rfl) ?_
    refine goA ?_
    refine t_imp (m' := [mapN .i64 s.db (toB s.R), mapN .i64 lb (toP A), pgC s d, lgI s.bl d s.g, mapN .i64 s.kb (toP s.K), mapN .i64 s.cb (toP s.C), dkI d, ctI, sbI bs s.b, mvI bm lb]) (fun w' hw' => itN_end hw') ?_
    refine t_pick [2, 8, 3, 4, 0, 5, 6, 1, 9, 7] rfl rfl ?_
    refine t_drawm [0, 1] 14 rfl rfl (by kernel_rfl) ?_
    refine goE ?_
    refine d_v [6] rfl rfl (by kernel_rfl) (fun _ h => by first | exact h | exact Hp.sub h (.cons _ (.refl _)) | exact Hp.sub h (.cons _ (.cons _ (.refl _))) | exact Hp.sub h (.cons _ (.cons _ (.cons _ (.refl _)))) | exact Hp.sub h (.cons _ (.cons _ (.cons _ (.cons _ (.refl _))))) | exact Hp.sub h (.cons _ (.cons _ (.cons _ (.cons _ (.cons _ (.refl _)))))) | exact Hp.sub h (.cons _ (.cons _ (.cons _ (.cons _ (.cons _ (.cons _ (.refl _))))))) | exact Hp.sub h (.cons_cons _ (.cons_cons _ (List.nil_sublist _))) | exact Hp.sub h (.cons _ (.cons_cons _ (.cons_cons _ (List.nil_sublist _))))) rfl rfl (v_mkb (vs := [.pointer (some ⟨d.b, 0, none⟩)]) rfl) ?_
    refine goE ?_
    refine d_v [] rfl rfl (by kernel_rfl) (fun _ h => by first | exact h | exact Hp.sub h (.cons _ (.refl _)) | exact Hp.sub h (.cons _ (.cons _ (.refl _))) | exact Hp.sub h (.cons _ (.cons _ (.cons _ (.refl _)))) | exact Hp.sub h (.cons _ (.cons _ (.cons _ (.cons _ (.refl _))))) | exact Hp.sub h (.cons _ (.cons _ (.cons _ (.cons _ (.cons _ (.refl _)))))) | exact Hp.sub h (.cons _ (.cons _ (.cons _ (.cons _ (.cons _ (.cons _ (.refl _))))))) | exact Hp.sub h (.cons_cons _ (.cons_cons _ (List.nil_sublist _))) | exact Hp.sub h (.cons _ (.cons_cons _ (.cons_cons _ (List.nil_sublist _))))) rfl rfl (v_mkb (vs := [.pointer (some ⟨s.bl, 0, none⟩)]) rfl) ?_
    refine d_opg 11 ⟨by kernel_rfl, by decide⟩ rfl rfl (o_buildslice rfl rfl rfl rfl rfl rfl) (fun _ _ h => goH h) fun ⟨bq, hbq⟩ => ?_
    have hstp := ou_step s d lb A bs bm ok hkl hwl hn hgo hnx hat hgd hAok hAl hws
    have hI : ∀ k (t : (Dk × Lg → Nat) × (Dk × Lg → Dk × Lg → Prop)) x x', (ouT s)[k]? = some t → ouI s d k x → t.2 x x' → t.1 x = 0 → ouI s d (k + 1) x' := by
      intro k t x x' ht hI h2 h1
      match k, ht, hI with
      | 0, ht, hI =>
        cases ht
        have hI : x = (d, s.g) := hI
        subst hI
        exact ⟨h2.1, h1, h2.2⟩
      | 1, ht, hI =>
        cases ht
        obtain ⟨hd1, e1, e2⟩ : dkOf d (wrsF d.D (wsD s)).2 x.1 ∧ (wrsF d.D (wsD s)).1 = 0 ∧ x.2 = s.g := hI
        simp only at h1 h2
        rw [hd1.2.2] at h1 h2
        exact ⟨hd1.trans h2.1, e1, h1, h2.2.trans e2⟩
      | 2, ht, hI => trivial
      | k + 3, ht, _ => cases ht
    refine d_opg 12 ⟨by kernel_rfl, by decide⟩ rfl rfl (ho_perm (m' := (ouB s lb A bs bm (d, s.g) ++ [fvI bq 3 (ouV s d bs bm)]) ++ []) (by rw [List.append_nil]; exact List.perm_append_comm (l₁ := [fvI bq 3 (ouV s d bs bm)]) (l₂ := ouB s lb A bs bm (d, s.g))) (o_cu (pre := ouB s lb A bs bm (d, s.g) ++ [fvI bq 3 (ouV s d bs bm)]) rfl (by kernel_rfl) rfl (by
      intro it hm
      rcases List.mem_append.1 hm with hm | hm
      · exact ouB_stable _ _ _ _ _ _ it hm
      · rw [List.mem_singleton] at hm; subst hm; exact own_stable _ _ _ _ _ _) (fun w1 hw1 hh1 ha1 => all_calls (ouB s lb A bs bm) (ouV s d bs bm) (ouT s) rfl (ouI s d) (d, s.g) rfl (ouB_stable s lb A bs bm) (by show (3 : Nat) ≤ 1000; decide) hstp hI bq 3 w1 hh1 ha1))) (fun x w h => by
        have hx := (ou_all x.2).2.1.1
        have e : pgC s x.1.2.1 = pgC s d := by unfold pgC pgA; rw [hx]
        have h1 : Hp _ _ (pgC s x.1.2.1 :: sbI bs s.b :: _) w := h
        rw [e] at h1
        exact h1.sub (.cons_cons _ (.cons_cons _ (List.nil_sublist _)))) fun ⟨⟨e, d', g'⟩, hx⟩ => ?_
    dsimp only at hx ⊢
    obtain ⟨hx1, hx2, hx3⟩ := ou_all hx
    simp only at hx1 hx2 hx3
    subst hx1 hx3
    have e : pgC s d' = pgC s d := by unfold pgC pgA; rw [hx2.1]
    unfold ouB
    rw [e, List.append_nil]
    refine goE ?_
    refine d_end (by kernel_rfl) ?_
    refine goA ?_
    dsimp only
    by_cases he : (outF s d.D).1 = 0
    · have hS : outS s d.D = { s with g := (outF s d.D).2.2, R := [] } := by unfold outS; rw [if_pos he]
      rw [hS, he]
      generalize (outF s d.D).2.2 = g2
      refine goA ?_
      refine l_say 44 _ (.map (some s.db)) rfl rfl ?_
      refine l_pick [4, 0, 1, 2, 3, 5, 6, 7, 8, 9] rfl rfl ?_
      refine l_op rfl (o_clearN0 rfl rfl rfl) fun _ => ?_
      refine goA ?_
      refine x_imp (m' := [pgI { s with g := g2, R := [] } d', dkI d', ctI]) (fun w' hw' => ?_) (x_ct d' rfl rfl rfl hx2 (.refl _) (pdc_stable _ _))
      rw [← e] at hw'
      exact pg_close (s := { s with g := g2, R := [] }) (m := [dkI d', ctI]) (hw'.pick [1, 3, 4, 0, 5, 6, 9] rfl rfl)
    · have hS : outS s d.D = { s with g := (outF s d.D).2.2 } := by unfold outS; rw [if_neg he]
      have hne : (((outF s d.D).1 : Int) == 0) = false := by simp [he]
      rw [hS, hne]
      generalize (outF s d.D).2.2 = g2
      refine goA ?_
      refine x_imp (m' := [pgI { s with g := g2 } d', dkI d', ctI]) (fun w' hw' => ?_) (x_ct d' rfl rfl rfl hx2 (.refl _) (pdc_stable _ _))
      rw [← e] at hw'
      exact pg_close (s := { s with g := g2 }) (m := [dkI d', ctI]) (hw'.pick [0, 2, 3, 4, 5, 6, 9] rfl rfl)
end Go.Proofs.YtplhamichcnmmaaGreatDoor
