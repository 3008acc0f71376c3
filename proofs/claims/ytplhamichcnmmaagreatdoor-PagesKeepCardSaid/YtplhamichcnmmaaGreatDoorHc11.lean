/- package disk: Write, Fuse, Crash, Start, New. -/
/- Whether a stream may be: as the program asks it, and as the document says it. -/
/- Chunks: what is parsed of bytes, what is put, and when both are one. -/
/- Maps that are keyed by hashes: their rows in memory, and what is looked up. -/
/- Maps keyed by hashes: making one, looking up, putting in, how many there are. -/
/- Chunks and streams: what may be, what is taken of bytes, and the law of the way back. -/
import Derived.Test.YtplhamichcnmmaaGreatDoorHc10
import Derived.Test.YtplhamichcnmmaaGreatDoorHc07
import Derived.Test.YtplhamichcnmmaaGreatDoorHc04
import Derived.DeepKeys3
import Derived.Test.YtplhamichcnmmaaGreatDoorHc02
namespace Go.Proofs.YtplhamichcnmmaaGreatDoor
open Go.RowKit Go.Eng
set_option maxRecDepth 100000
set_option maxHeartbeats 40000000
theorem write_ok {D : Dsk} (ok : D.Ok) (at_ : Nat) (s : Bys) : (writeF D at_ s).2.Ok := by
  unfold writeF
  split
  · exact ok
  · split
    · exact ok
    · rename_i hl
      split
      · exact ok
      · rename_i h5
        have h := act_ok ok
        split
        · rename_i he
          obtain ⟨h1, h2, -⟩ := act_wait he
          refine ⟨h.size, fun p hp => ?_, h.many, h.left⟩
          rcases List.mem_append.1 hp with hp | hp
          · exact h.wsize p hp
          · rw [List.mem_singleton] at hp
            subst hp
            refine ⟨by simpa using h5, ?_⟩
            show at_ < (actF D).2.on.length
            rw [h2]
            simpa using hl
        · exact h
theorem flushG_ok {D : Dsk} (ok : D.Ok) : (flushG D).2.Ok := by
  unfold flushG
  split
  · exact ok
  · split
    · exact flush_ok (act_ok ok)
    · exact act_ok ok
theorem dwrite_calls (d : Dk) (ok : d.D.Ok) (hkl : d.D.keep.length ≤ 1000000) (hwl : d.D.wait.length ≤ 1000000) (at_ : Nat) (hat : at_ < 9223372036854775808) (s : Bys) (a : Option Addr) (c : Nat) (hsl : s.length ≤ 1000000) (w : World) (hw : ∀ it ∈ [dkI d], Here it w) (hr : ∀ w', Fr (foots [dkI d]) w w' → Rd w' a (bytesV s)) :
    Ct Tryz.prog 59 #[.pointer (some ⟨d.b, 0, none⟩), .int .i64 at_, .slice a s.length c] w (foots [dkI d]) (fun _ : Dk => .int .i64 ((writeF d.D at_ s).1 : Nat)) (dkOf d (writeF d.D at_ s).2) (fun d' => [dkI d']) := by
  refine cu_of [_, _, _] _ Tryz.func59 rfl rfl hw (.cons (fun _ h => nomatch h) .nil) ?_
  simp only [argSlots, Nat.reduceAdd]
  have hmany := ok.many
  refine goA ?_
  refine l_opg rfl (o_pure rfl (by kernel_rfl) rfl (fun w1 hw1 => power_calls d w1 (Here.of (hw1.item _ (.head _)) (bundle_stable _)))) fun _ => ?_
  refine goA ?_
  refine l_opg rfl (o_pure rfl (by kernel_rfl) rfl (fun w1 hw1 => has_calls d at_ hat w1 (Here.of (hw1.item _ (.head _)) (bundle_stable _)))) fun _ => ?_
  refine goA ?_
  obtain ⟨e1, he1⟩ : ∃ e, (if d.D.dead then 4 else 0 : Nat) = e := ⟨_, rfl⟩
  obtain ⟨e2, he2⟩ : ∃ e, (if at_ < d.D.on.length then 0 else 2 : Nat) = e := ⟨_, rfl⟩
  obtain ⟨e3, he3⟩ : ∃ e, (if s.length = 512 then 0 else 2 : Nat) = e := ⟨_, rfl⟩
  rw [he1, he2]
  refine l_say 16 _ (.bool (decide (s.length = 512))) rfl (congrArg Value.bool (by by_cases h : s.length = 512 <;> simp [h]; omega)) ?_
  refine l_opg rfl (o_pure rfl (by kernel_rfl) rfl (fun w1 hw1 => unless_calls (decide (s.length = 512)) 2 w1)) fun _ => ?_
  refine l_say 17 _ (.int .i64 (e3 : Nat)) rfl (by rw [← he3]; by_cases h : s.length = 512 <;> simp [h]) ?_
  refine l_op rfl (o_buildslice rfl rfl rfl rfl rfl rfl) fun ⟨bq, hbq⟩ => ?_
  refine l_opg rfl (o_pure rfl (by kernel_rfl) rfl (fun w1 hw1 => first_calls [e1, e2, e3] (some ⟨bq, 0, none⟩) 3 (by simp) w1 (own_Rd (o := some (bq, 3)) (hw1.item _ (.head _)).1))) fun _ => ?_
  have hfe : firstE [e1, e2, e3] = if e1 ≠ 0 then e1 else if e2 ≠ 0 then e2 else e3 := by
    unfold firstE
    by_cases h1 : e1 = 0
    · by_cases h2 : e2 = 0
      · by_cases h3 : e3 = 0
        · simp [h1, h2, h3]
        · simp [h1, h2, h3]
      · simp [h1, h2]
    · simp [h1]
  by_cases hbad : (d.D.dead = false ∧ at_ < d.D.on.length) ∧ s.length = 512
  · obtain ⟨⟨hd, hl⟩, h5⟩ := hbad
    have hW : writeF d.D at_ s = if (actF d.D).1 = 0 then (0, { (actF d.D).2 with wait := (actF d.D).2.wait ++ [(s, at_)] }) else actF d.D := by
      unfold writeF
      rw [hd, if_neg (by decide), if_neg (by simp [hl]), if_neg (by simp [h5])]
    have hf0 : firstE [e1, e2, e3] = 0 := by
      rw [hfe, ← he1, ← he2, ← he3, hd, if_pos hl, if_pos h5]; rfl
    rw [hf0, hW]
    refine l_pick [1] rfl rfl ?_
    refine goA ?_
    refine l_opg rfl (o_cu (pre := [dkI d]) rfl (by kernel_rfl) rfl (by first | (simp [pt_stable, own_stable, mp_stable]; done) | (intro it hm; (iterate 6 (all_goals try (rcases hm with _ | ⟨_, hm⟩))) <;> first | exact bundle_stable _ | exact pt_stable _ _ _ | exact own_stable _ _ _ _ _ _)) (fun w1 hw1 hh1 ha1 => act_calls d ok hkl (by omega) w1 hh1)) fun ⟨x, hx⟩ => ?_
    have hok := act_ok ok
    by_cases he : (actF d.D).1 = 0
    · obtain ⟨hwt, hon, hdd, hkk⟩ := act_wait he
      rw [if_pos he, he]
      dsimp only
      obtain ⟨h1, h2, h3⟩ := hx
      rw [← h3] at hwt hon hdd hkk hok ⊢
      have hwl2 : x.D.wait.length ≤ 1000000 := by rw [hwt]; exact hwl
      rw [← h1]
      refine goA ?_
      refine t_imp (m' := dkL x) (fun w' hw' => dk_open hw') ?_
      unfold dkL
      have hl5 : (bytesV s).length = 512 := by rw [bytesV_length, h5]
      have hwv : (wrV (s, at_)).length = 513 := wrV_len h5
      obtain ⟨b, off, rfl, -⟩ := (hr w (.refl _ _)).at_ (fun e => by have := congrArg List.length e; rw [bytesV_length, h5] at this; cases this)
      have hrow : ∀ {m : List Eng.Item} (w' : World), Hp w (foots [dkI d]) m w' → w'.rangeAt b off (bytesV s) := fun w' hw' => by
        obtain ⟨b2, off2, e, h6⟩ := (hr w' hw'.fr).at_ (fun e => by rw [e] at hl5; cases hl5)
        cases e
        exact h6
      refine t_pick [2, 0, 1] rfl rfl ?_
      refine t_drawm [1, 2] 14 rfl rfl (by kernel_rfl) ?_
      (repeat first | (apply d_w [6, 7, 9] rfl rfl rfl (by kernel_rfl) (fun _ h => by first | exact h | exact Hp.sub h (.cons _ (.refl _)) | exact Hp.sub h (.cons _ (.cons _ (.refl _))) | exact Hp.sub h (.cons _ (.cons _ (.cons _ (.refl _)))) | exact Hp.sub h (.cons _ (.cons _ (.cons _ (.cons _ (.refl _))))) | exact Hp.sub h (.cons _ (.cons _ (.cons _ (.cons _ (.cons _ (.refl _)))))) | exact Hp.sub h (.cons _ (.cons _ (.cons _ (.cons _ (.cons _ (.cons _ (.refl _))))))) | exact Hp.sub h (.cons_cons _ (.cons_cons _ (List.nil_sublist _))) | exact Hp.sub h (.cons _ (.cons_cons _ (.cons_cons _ (List.nil_sublist _))))); focus (first | exact v_move rfl | exact v_assign rfl | exact v_bt rfl rfl | exact v_extract rfl rfl | exact v_field0 rfl rfl | exact v_field rfl rfl | exact v_lens rfl rfl | exact v_lenstr rfl rfl | exact v_nt rfl | exact v_load1p rfl rfl (by repeat first | exact .head _ | apply List.Mem.tail) | exact v_loadn rfl rfl (by repeat first | exact .head _ | apply List.Mem.tail) rfl | exact v_loadp rfl rfl (by repeat first | exact .head _ | apply List.Mem.tail) rfl | exact v_loada rfl rfl (by repeat first | exact .head _ | apply List.Mem.tail) | exact v_eqb rfl rfl rfl | exact v_slA rfl rfl rfl | exact v_builds rfl rfl rfl rfl rfl | exact v_eqs rfl rfl | exact v_nc rfl | exact v_caps rfl rfl | exact v_eqpn rfl rfl rfl | exact v_nepn rfl rfl rfl | exact v_neps rfl rfl rfl rfl | ((first | refine v_bn rfl rfl ?_ | refine v_is1 rfl rfl rfl ?_ | refine v_ia1 rfl rfl rfl ?_ | refine v_sa rfl rfl rfl ?_ | refine v_sF rfl rfl rfl ?_ | refine v_sT rfl rfl rfl ?_ | refine v_sFT rfl rfl rfl rfl ?_ | refine v_lF rfl rfl rfl rfl ?_ | refine v_is rfl rfl rfl ?_ | refine v_ia rfl rfl rfl ?_ | refine v_lT rfl rfl rfl rfl ?_ | refine v_cv rfl rfl rfl ?_ | refine v_slLH rfl rfl rfl rfl rfl ?_ | refine v_sl3 rfl rfl rfl rfl rfl ?_); first | omega | assumption) | exact v_pT rfl rfl (by first | omega | assumption | (simp; done) | exact fun h => h (by assumption) | fail) | exact v_pF rfl rfl (by first | omega | assumption | (simp; done) | exact fun h => h (by assumption) | fail) | exact v_pickB rfl rfl rfl)) | refine d_no [6, 7, 9] rfl rfl rfl (by kernel_rfl) (fun _ h => by first | exact h | exact Hp.sub h (.cons _ (.refl _)) | exact Hp.sub h (.cons _ (.cons _ (.refl _))) | exact Hp.sub h (.cons _ (.cons _ (.cons _ (.refl _)))) | exact Hp.sub h (.cons _ (.cons _ (.cons _ (.cons _ (.refl _))))) | exact Hp.sub h (.cons _ (.cons _ (.cons _ (.cons _ (.cons _ (.refl _)))))) | exact Hp.sub h (.cons _ (.cons _ (.cons _ (.cons _ (.cons _ (.cons _ (.refl _))))))) | exact Hp.sub h (.cons_cons _ (.cons_cons _ (List.nil_sublist _))) | exact Hp.sub h (.cons _ (.cons_cons _ (.cons_cons _ (List.nil_sublist _))))) ?_ | refine d_T [6, 7, 9] rfl rfl rfl rfl (by first | omega | assumption | (simp; done) | exact fun h => h (by assumption) | fail) ?_ | refine d_F [6, 7, 9] rfl rfl rfl rfl (by first | omega | assumption | (simp; done) | exact fun h => h (by assumption) | fail) ?_)
      refine d_v [7, 9] rfl rfl (by kernel_rfl) (fun _ h => by first | exact h | exact Hp.sub h (.cons _ (.refl _)) | exact Hp.sub h (.cons _ (.cons _ (.refl _))) | exact Hp.sub h (.cons _ (.cons _ (.cons _ (.refl _)))) | exact Hp.sub h (.cons _ (.cons _ (.cons _ (.cons _ (.refl _))))) | exact Hp.sub h (.cons _ (.cons _ (.cons _ (.cons _ (.cons _ (.refl _)))))) | exact Hp.sub h (.cons _ (.cons _ (.cons _ (.cons _ (.cons _ (.cons _ (.refl _))))))) | exact Hp.sub h (.cons_cons _ (.cons_cons _ (List.nil_sublist _))) | exact Hp.sub h (.cons _ (.cons_cons _ (.cons_cons _ (List.nil_sublist _))))) rfl rfl (v_s2ap (n := 512) (k := s.length) rfl rfl (by omega)) ?_
      refine d_v [9] rfl rfl (by kernel_rfl) (fun _ h => by first | exact h | exact Hp.sub h (.cons _ (.refl _)) | exact Hp.sub h (.cons _ (.cons _ (.refl _))) | exact Hp.sub h (.cons _ (.cons _ (.cons _ (.refl _)))) | exact Hp.sub h (.cons _ (.cons _ (.cons _ (.cons _ (.refl _))))) | exact Hp.sub h (.cons _ (.cons _ (.cons _ (.cons _ (.cons _ (.refl _)))))) | exact Hp.sub h (.cons _ (.cons _ (.cons _ (.cons _ (.cons _ (.cons _ (.refl _))))))) | exact Hp.sub h (.cons_cons _ (.cons_cons _ (List.nil_sublist _))) | exact Hp.sub h (.cons _ (.cons_cons _ (.cons_cons _ (List.nil_sublist _))))) rfl rfl (v_loadc (xs := bytesV s) rfl (by rw [hl5]; rfl) (fun w' hw' => hrow w' hw')) ?_
      refine d_v [] rfl rfl (by kernel_rfl) (fun _ h => by first | exact h | exact Hp.sub h (.cons _ (.refl _)) | exact Hp.sub h (.cons _ (.cons _ (.refl _))) | exact Hp.sub h (.cons _ (.cons _ (.cons _ (.refl _)))) | exact Hp.sub h (.cons _ (.cons _ (.cons _ (.cons _ (.refl _))))) | exact Hp.sub h (.cons _ (.cons _ (.cons _ (.cons _ (.cons _ (.refl _)))))) | exact Hp.sub h (.cons _ (.cons _ (.cons _ (.cons _ (.cons _ (.cons _ (.refl _))))))) | exact Hp.sub h (.cons_cons _ (.cons_cons _ (List.nil_sublist _))) | exact Hp.sub h (.cons _ (.cons_cons _ (.cons_cons _ (List.nil_sublist _))))) rfl rfl (v_builds (L := [(0, 512, .agg (bytesV s).toArray), (512, 1, .int .i64 (at_ : Int))]) rfl rfl rfl rfl (by simp [okPartsB, Value.cells, hl5])) ?_
      refine d_say 37 _ (.agg (wrV (s, at_)).toArray) rfl ?_ ?_
      · show Value.agg ((over (over _ 0 (bytesV s)) 512 [Value.int .i64 (at_ : Int)]).toArray) = _
        have e : ∀ z : List Value, z.length = 513 → over (over z 0 (bytesV s)) 512 [Value.int .i64 (at_ : Int)] = wrV (s, at_) := fun z hz => by
          have h1 : over z 0 (bytesV s) = bytesV s ++ z.drop 512 := by
            unfold over; rw [hl5]; simp
          rw [h1]
          unfold over wrV
          rw [List.take_append_of_le_length (by omega), List.take_of_length_le (by omega), List.drop_of_length_le (by simp [hl5, hz])]
          simp
        rw [e _ rfl]
      refine d_opg 10 ⟨by kernel_rfl, by decide⟩ rfl rfl (o_buildslice (L := [(0, 513, .agg (wrV (s, at_)).toArray)]) rfl rfl rfl rfl rfl (okP1 (by rw [List.size_toArray, hwv]) (by decide))) (fun _ _ h => goH h) fun ⟨bp, hbp⟩ => ?_
      refine goE ?_
      refine d_opg 11 ⟨by kernel_rfl, by decide⟩ rfl rfl (ho_perm (bring1 _ _ _) (o_append (news := wrV (s, at_)) rfl rfl rfl rfl rfl rfl (by rw [hwv]) (wrV_one _) (by omega) (fun w' hw' j v hj => by rw [add_at, Nat.zero_add]; refine own_rd (hw'.item _ (.tail _ (.head _))).1 j v ?_; rw [bld1 (by rw [zerosL, List.length_map, List.length_range, hwv])]; exact hj))) (fun _ _ h => goH h) fun o' => ?_
      refine goE ?_
      refine d_tail ⟨by kernel_rfl, by kernel_rfl⟩ rfl rfl (ho_perm (bring2 _ _ _ _) (o_store1 rfl rfl rfl rfl (slV_cells _ _) (slV_one _ _) (show (3 : Nat) < 6 from by decide))) fun _ => ?_
      refine goA ?_
      have hrw : rowsV wrV x.D.wait ++ wrV (s, at_) = rowsV wrV (x.D.wait ++ [(s, at_)]) := by rw [rowsV_append, rowsV_one]
      have hlw : x.D.wait.length + 1 = (x.D.wait ++ [(s, at_)]).length := by simp
      rw [hrw, hlw]
      refine x_imp (m' := [dkI { x with w := o', D := { x.D with wait := x.D.wait ++ [(s, at_)] } }]) (fun w' hw' => dk_close (m := []) ?_) (x_ct { x with w := o', D := { x.D with wait := x.D.wait ++ [(s, at_)] } } rfl rfl rfl ⟨h1, h2, rfl⟩ (.refl _) (by simp [dkI, bundle_stable]))
      rw [List.append_nil]
      unfold dkL
      exact hw'.pick [0, 3, 1] rfl rfl
    · rw [if_neg he]
      refine goA ?_
      exact x_ct x rfl rfl rfl hx (.refl _) (by simp [dkI, bundle_stable])
  · have hne : firstE [e1, e2, e3] ≠ 0 ∧ writeF d.D at_ s = (firstE [e1, e2, e3], d.D) := by
      rw [hfe, ← he1, ← he2, ← he3]
      unfold writeF
      cases hd : d.D.dead with
      | true => simp
      | false =>
        by_cases hl : at_ < d.D.on.length
        · have h5 : ¬ s.length = 512 := fun h => hbad ⟨⟨hd, hl⟩, h⟩
          simp [hl, h5]
        · simp [hl]
    obtain ⟨hne, hW⟩ := hne
    rw [hW]
    generalize firstE [e1, e2, e3] = e at hne
    refine goA ?_
    exact x_ct d rfl rfl rfl ⟨rfl, rfl, rfl⟩ (.cons _ (.refl _)) (by simp [dkI, bundle_stable])
def fuseF (D : Dsk) (n : Nat) (keep : Bys) : Dsk := { D with left := some n, keep := keep }
theorem fuse_calls (d : Dk) (n : Nat) (hn : n ≤ 9223372036854775807) (keep : Bys) (w : World) (hw : ∀ it ∈ [dkI d], Here it w) :
    Ct Tryz.prog 27 #[.pointer (some ⟨d.b, 0, none⟩), .int .i64 n, .string ⟨keep.toArray⟩] w (foots [dkI d]) (fun _ : Unit => .int .i64 0) (fun _ => True) (fun _ => [dkI { d with D := fuseF d.D n keep }]) := by
  refine cu_of [_, _, _] _ Tryz.func27 rfl rfl hw (.cons (fun _ h => nomatch h) .nil) ?_
  simp only [argSlots, Nat.reduceAdd]
  refine goA ?_
  refine l_opg rfl (o_pure rfl (by kernel_rfl) rfl (fun w1 hw1 => there_calls d.b w1)) fun _ => ?_
  refine goA ?_
  refine l_say 11 _ (.bool true) rfl (congrArg Value.bool (decide_eq_true (by omega))) ?_
  refine l_opg rfl (o_pure rfl (by kernel_rfl) rfl (fun w1 hw1 => unless_calls true 2 w1)) fun _ => ?_
  rw [if_pos rfl]
  refine l_op rfl (o_buildslice rfl rfl rfl rfl rfl rfl) fun ⟨bq, hbq⟩ => ?_
  refine l_opg rfl (o_pure rfl (by kernel_rfl) rfl (fun w1 hw1 => first_calls [0, 0] (some ⟨bq, 0, none⟩) 2 (by simp) w1 (own_Rd (o := some (bq, 2)) (hw1.item _ (.head _)).1))) fun _ => ?_
  rw [show firstE [0, 0] = 0 from rfl]
  refine l_pick [1] rfl rfl ?_
  refine goA ?_
  refine l_imp (m' := dkL d) (fun w' hw' => dk_open hw') ?_
  unfold dkL
  refine l_op rfl (o_storerE (V := [.int .i64 (n : Int), .string ⟨keep.toArray⟩]) rfl rfl rfl rfl rfl rfl (show (0 + 2 : Nat) ≤ 6 from by decide)) fun _ => ?_
  refine goA ?_
  refine x_imp (m' := [dkI { d with D := fuseF d.D n keep }]) (fun w' hw' => dk_close (m := []) ?_) (x_ct () rfl rfl rfl trivial (.refl _) (by simp [dkI, bundle_stable]))
  rw [List.append_nil]
  exact hw'
def crashG (D : Dsk) (keep : Bys) : Nat × Dsk := if D.dead then (4, D) else (0, goesF D keep)
theorem crash_calls (d : Dk) (ok : d.D.Ok) (keep : Bys) (hk : keep.length ≤ 1000000) (hwl : d.D.wait.length ≤ 1000000000) (w : World) (hw : ∀ it ∈ [dkI d], Here it w) :
    Ct Tryz.prog 28 #[.pointer (some ⟨d.b, 0, none⟩), .string ⟨keep.toArray⟩] w (foots [dkI d]) (fun _ : Dk => .int .i64 ((crashG d.D keep).1 : Nat)) (dkOf d (crashG d.D keep).2) (fun d' => [dkI d']) := by
  refine cu_of [_, _] _ Tryz.func28 rfl rfl hw (.cons (fun _ h => nomatch h) .nil) ?_
  simp only [argSlots, Nat.reduceAdd]
  refine goA ?_
  refine l_opg rfl (o_pure rfl (by kernel_rfl) rfl (fun w1 hw1 => power_calls d w1 (Here.of (hw1.item _ (.head _)) (bundle_stable _)))) fun _ => ?_
  unfold crashG
  cases hd : d.D.dead with
  | true =>
    simp only [if_true]
    refine goA ?_
    exact x_ct d rfl rfl rfl ⟨rfl, rfl, rfl⟩ (.refl _) (by simp [dkI, bundle_stable])
  | false =>
    simp only [Bool.false_eq_true, if_false]
    refine goA ?_
    refine l_opg rfl (o_cu (pre := [dkI d]) rfl (by kernel_rfl) rfl (by first | (simp [pt_stable, own_stable, mp_stable]; done) | (intro it hm; (iterate 6 (all_goals try (rcases hm with _ | ⟨_, hm⟩))) <;> first | exact bundle_stable _ | exact pt_stable _ _ _ | exact own_stable _ _ _ _ _ _)) (fun w1 hw1 hh1 ha1 => goes_calls d ok keep hk hwl w1 hh1)) fun ⟨x, hx⟩ => ?_
    refine goA ?_
    exact x_ct { d with w := none, D := goesF d.D keep } rfl rfl rfl ⟨rfl, rfl, rfl⟩ (.refl _) (by simp [dkI, bundle_stable])
theorem start_calls (d : Dk) (w : World) (hw : ∀ it ∈ [dkI d], Here it w) :
    Ct Tryz.prog 83 #[.pointer (some ⟨d.b, 0, none⟩)] w (foots [dkI d]) (fun _ : Unit => .int .i64 0) (fun _ => True) (fun _ => [dkI { d with D := { d.D with dead := false } }]) := by
  refine cu_of [_] _ Tryz.func83 rfl rfl hw (.cons (fun _ h => nomatch h) .nil) ?_
  simp only [argSlots]
  refine goA ?_
  refine l_opg rfl (o_pure rfl (by kernel_rfl) rfl (fun w1 hw1 => there_calls d.b w1)) fun _ => ?_
  refine goA ?_
  refine l_imp (m' := dkL d) (fun w' hw' => dk_open hw') ?_
  unfold dkL
  refine l_op rfl (o_store1 rfl rfl rfl rfl rfl rfl (show (4 : Nat) < 6 from by decide)) fun _ => ?_
  refine goA ?_
  refine x_imp (m' := [dkI { d with D := { d.D with dead := false } }]) (fun w' hw' => dk_close (m := []) ?_) (x_ct () rfl rfl rfl trivial (.refl _) (by simp [dkI, bundle_stable]))
  rw [List.append_nil]
  exact hw'
def newD (n : Nat) : Dsk := ⟨List.replicate n (List.replicate 512 0), [], none, [], false⟩
theorem newD_ok {n : Nat} (hn : n ≤ 4096) : (newD n).Ok :=
  ⟨fun s hs => by rw [List.eq_of_mem_replicate hs, List.length_replicate], fun _ h => (nomatch h), by show (List.replicate _ _).length ≤ _; rw [List.length_replicate]; exact hn, fun _ h => (nomatch h)⟩
theorem bz_at (N j : Nat) (h : j < (bytesV (List.replicate N 0)).toArray.size) : (bytesV (List.replicate N 0)).toArray[j] = .int .u8 0 := by simp [bytesV]
theorem zeros_agg (k : Nat) : zerosL (.agg (bytesV (List.replicate 512 0)).toArray) k = List.replicate k (.int .u8 0) := by
  unfold zerosL
  apply List.ext_getElem?
  intro i
  rw [List.getElem?_map, List.getElem?_replicate]
  by_cases hi : i < k
  · rw [List.getElem?_range hi, if_pos hi, Option.map_some]
    congr 1
    have hs : (Value.agg (bytesV (List.replicate 512 0)).toArray).cells.size = 512 := by
      show (bytesV (List.replicate 512 0)).toArray.size = 512
      rw [List.size_toArray, bytesV_length, List.length_replicate]
    have h5 : i % 512 < 512 := Nat.mod_lt _ (by decide)
    rw [hs]
    show (bytesV (List.replicate 512 0)).toArray[i % 512]! = _
    rw [getElem!_pos _ _ (by rw [List.size_toArray, bytesV_length, List.length_replicate]; exact h5)]
    exact bz_at 512 _ _
  · rw [List.getElem?_eq_none (by simpa using hi), if_neg hi]; rfl
theorem secsV_rep (n : Nat) : secsV (List.replicate n (List.replicate 512 0)) = List.replicate (n * 512) (.int .u8 0) := by
  have hb : bytesV (List.replicate 512 0) = List.replicate 512 (.int .u8 0) := by simp [bytesV]
  induction n with
  | zero => rfl
  | succ n ih =>
    have e : secsV (List.replicate (n + 1) (List.replicate 512 0)) = bytesV (List.replicate 512 0) ++ secsV (List.replicate n (List.replicate 512 0)) := by
      rw [List.replicate_succ]; simp [secsV]
    rw [e, ih, hb, List.replicate_append_replicate]
    congr 1
    omega
theorem dnew_calls (n : Nat) (hn : 1 ≤ n ∧ n ≤ 4096) (w : World) :
    Ct Tryz.prog 13 #[.int .i64 n] w none' (fun d : Dk => .tuple #[.pointer (some ⟨d.b, 0, none⟩), .int .i64 0]) (fun d => d.D = newD n) (fun d => [dkI d]) := by
  refine ct_of [_] Tryz.func13 rfl rfl ?_
  simp only [argSlots]
  refine goA ?_
  refine l_op rfl (o_maker rfl rfl rfl rfl rfl (by omega)) fun ⟨ob, hob⟩ => ?_
  refine goA ?_
  refine l_say 13 _ (.agg #[.int .i64 (-1), .string ⟨#[]⟩, .slice (some ⟨ob, 0, none⟩) n n, .slice none 0 0, .bool false, .int .u64 0]) rfl rfl ?_
  refine l_boxa rfl rfl fun b hb => ?_
  refine goA ?_
  have hz : zerosL (.agg (bytesV (List.replicate 512 0)).toArray) (n * 512) = secsV (newD n).on := by rw [zeros_agg]; exact (secsV_rep n).symm
  refine x_imp (m' := [dkI ⟨b, ob, none, 0, newD n⟩]) (fun w' hw' => dk_close (m := []) ?_) (x_ct2 ⟨b, ob, none, 0, newD n⟩ rfl rfl rfl rfl rfl (.refl _) (by simp [dkI, bundle_stable]))
  rw [List.append_nil]
  unfold dkL
  rw [← hz]
  show Hp w none' [pt b (.cells #[_, _, Value.slice _ (List.replicate n (List.replicate 512 0)).length (List.replicate n (List.replicate 512 0)).length, _, _, _] _ _), _, _] w'
  rw [List.length_replicate]
  exact (hp_nil1 152 513 hw').pick [1, 2, 0] rfl rfl
end Go.Proofs.YtplhamichcnmmaaGreatDoor

namespace Go.Proofs.YtplhamichcnmmaaGreatDoor
set_option maxRecDepth 100000
end Go.Proofs.YtplhamichcnmmaaGreatDoor

namespace Go.Proofs.YtplhamichcnmmaaGreatDoor
set_option maxRecDepth 100000
def opName (o : Opn) : Bys × Opn := if o.2 then ([], o) else match o.1 with
  | [] => ([], ([], true))
  | c :: r => if r.length < c.toNat then ([], (c :: r, true)) else (r.take c.toNat, (r.drop c.toNat, false))
/-! ### lengths -/
end Go.Proofs.YtplhamichcnmmaaGreatDoor

namespace Go.Eng
open Go.RowKit
set_option maxRecDepth 100000
end Go.Eng

namespace Go.Eng
open Go.RowKit
set_option maxRecDepth 100000
variable {P : Program} {Q : Exit → Act → World → Prop} {N : Fm} {l : Slots} {H : World → Prop} {ops : Array Oper} {rest : List Oper} {w0 : World} {F : Nat → Prop} {m m' : List Item} {ty : TypeId} {pos : String} {after : Array Edge} {g : Option (Nat × Bool)} {d : Nat}
section look
variable {x y z : Operand} {T k e : TypeId} {b : Nat} {A : List (List UInt8 × Value)} {h : List UInt8} {zv v : Value}
end look
end Go.Eng

namespace Go.Proofs.YtplhamichcnmmaaGreatDoor
set_option maxRecDepth 100000
open Classical in
open Classical in
open Classical in
/-! ### The stream that is known -/
/-! ### Lengths -/
end Go.Proofs.YtplhamichcnmmaaGreatDoor
