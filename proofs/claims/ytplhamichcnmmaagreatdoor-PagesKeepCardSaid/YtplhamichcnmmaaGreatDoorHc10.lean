/- package disk: acts, writes, flushes. -/
import Derived.Test.YtplhamichcnmmaaGreatDoorHc09
namespace Go.Proofs.YtplhamichcnmmaaGreatDoor
open Go.RowKit Go.Eng
set_option maxRecDepth 100000
set_option maxHeartbeats 40000000
theorem dk_atP {d : Dk} {w : World} (h : (dkI d).prop w) (i : Nat) {v : Value} (hv : (dkCells d)[i]? = some v) : w.cell? ⟨d.b, i, none⟩ = some v :=
  cell_pt (h.1 (pt d.b (.cells (dkCells d).toArray 100 (0, 0))) (.head _)).1 (by rw [List.getElem?_toArray]; exact hv)
theorem dk_open {d : Dk} {w w0 : World} {F : Nat → Prop} (h : Hp w0 F [dkI d] w) : Hp w0 F (dkL d) w := by
  have := Hp.open1 (m := []) h
  rwa [List.append_nil] at this
theorem dk_close {d : Dk} {w w0 : World} {F : Nat → Prop} {m : List Eng.Item} (h : Hp w0 F (dkL d ++ m) w) : Hp w0 F (dkI d :: m) w := Hp.close1 (dkL_stable _) h
def dkOf (d : Dk) (D' : Dsk) (d' : Dk) : Prop := d'.b = d.b ∧ d'.onB = d.onB ∧ d'.D = D'
theorem act_calls (d : Dk) (ok : d.D.Ok) (hkl : d.D.keep.length ≤ 1000000) (hwl : d.D.wait.length ≤ 1000000000) (w : World) (hw : ∀ it ∈ [dkI d], Here it w) :
    Ct Tryz.prog 100 #[.pointer (some ⟨d.b, 0, none⟩)] w (foots [dkI d]) (fun _ : Dk => .int .i64 ((actF d.D).1 : Nat)) (dkOf d (actF d.D).2) (fun d' => [dkI d']) := by
  refine cu_of [_] _ Tryz.func100 rfl rfl hw (.cons (fun _ h => nomatch h) .nil) ?_
  simp only [argSlots]
  refine goA ?_
  refine l_w rfl (v_load rfl rfl (fun w' hw' => dk_atP (hw'.item _ (.head _)).1 0 rfl)) ?_
  cases hl : d.D.left with
  | some n =>
    have hn := ok.left n hl
    rw [show leftI (some n) = (n : Int) from rfl]
    cases n with
    | zero =>
      have ha : actF d.D = (4, goesF d.D d.D.keep) := by unfold actF; rw [hl]
      rw [ha]
      refine goA ?_
      refine l_w rfl (v_load rfl rfl (fun w' hw' => dk_atP (hw'.item _ (.head _)).1 1 rfl)) ?_
      refine l_opg rfl (o_cu (pre := [dkI d]) rfl (by kernel_rfl) rfl (by first | (simp [pt_stable, own_stable, mp_stable]; done) | (intro it hm; (iterate 6 (all_goals try (rcases hm with _ | ⟨_, hm⟩))) <;> first | exact bundle_stable _ | exact pt_stable _ _ _ | exact own_stable _ _ _ _ _ _)) (fun w1 hw1 hh1 ha1 => goes_calls d ok d.D.keep hkl hwl w1 hh1)) fun ⟨x, hx⟩ => ?_
      refine goA ?_
      exact x_ct { d with w := none, D := goesF d.D d.D.keep } rfl rfl rfl ⟨rfl, rfl, rfl⟩ (.refl _) (by simp [dkI, bundle_stable])
    | succ n =>
      have ha : actF d.D = (0, { d.D with left := some n }) := by unfold actF; rw [hl]
      rw [ha]
      refine goA ?_
      refine l_w rfl (v_load rfl rfl (fun w' hw' => dk_atP (hw'.item _ (.head _)).1 0 (congrArg (fun z => some (Value.int .i64 (leftI z))) hl))) ?_
      rw [show leftI (some (n + 1)) = ((n + 1 : Nat) : Int) from rfl]
      refine goA ?_
      refine l_w rfl (v_load rfl rfl (fun w' hw' => dk_atP (hw'.item _ (.head _)).1 0 (congrArg (fun z => some (Value.int .i64 (leftI z))) hl))) ?_
      rw [show leftI (some (n + 1)) = ((n + 1 : Nat) : Int) from rfl]
      refine goA ?_
      refine l_imp (m' := dkL d) (fun w' hw' => dk_open hw') ?_
      unfold dkL
      refine l_op rfl (o_store1 rfl rfl rfl rfl rfl rfl (show (0 : Nat) < 6 from by decide)) fun _ => ?_
      refine goA ?_
      refine l_w rfl (v_addUw rfl rfl) ?_
      refine goA ?_
      refine l_op rfl (o_store1 rfl rfl rfl rfl rfl rfl (show (5 : Nat) < 6 from by decide)) fun _ => ?_
      refine goA ?_
      refine x_imp (m' := [dkI { d with acts := (d.acts + 1) % 18446744073709551616, D := { d.D with left := some n } }]) (fun w' hw' => dk_close (m := []) ?_) (x_ct { d with acts := (d.acts + 1) % 18446744073709551616, D := { d.D with left := some n } } rfl rfl rfl ⟨rfl, rfl, rfl⟩ (.refl _) (by simp [dkI, bundle_stable]))
      rw [List.append_nil]
      exact hw'
  | none =>
    have ha : actF d.D = (0, d.D) := by unfold actF; rw [hl]
    rw [ha, show leftI none = -1 from rfl]
    refine goA ?_
    refine l_w rfl (v_load rfl rfl (fun w' hw' => dk_atP (hw'.item _ (.head _)).1 0 (congrArg (fun z => some (Value.int .i64 (leftI z))) hl))) ?_
    rw [show leftI none = -1 from rfl]
    refine goA ?_
    refine l_imp (m' := dkL d) (fun w' hw' => dk_open hw') ?_
    unfold dkL
    refine goA ?_
    refine l_w rfl (v_addUw rfl rfl) ?_
    refine goA ?_
    refine l_op rfl (o_store1 rfl rfl rfl rfl rfl rfl (show (5 : Nat) < 6 from by decide)) fun _ => ?_
    refine goA ?_
    refine x_imp (m' := [dkI { d with acts := (d.acts + 1) % 18446744073709551616 }]) (fun w' hw' => dk_close (m := []) ?_) (x_ct { d with acts := (d.acts + 1) % 18446744073709551616 } rfl rfl rfl ⟨rfl, rfl, rfl⟩ (.refl _) (by simp [dkI, bundle_stable]))
    rw [List.append_nil]
    exact hw'
def writeF (D : Dsk) (at_ : Nat) (s : Bys) : Nat × Dsk :=
  if D.dead then (4, D) else if ¬ at_ < D.on.length then (2, D) else if s.length ≠ 512 then (2, D) else
  if (actF D).1 = 0 then (0, { (actF D).2 with wait := (actF D).2.wait ++ [(s, at_)] }) else actF D
def flushG (D : Dsk) : Nat × Dsk := if D.dead then (4, D) else if (actF D).1 = 0 then (0, flushF (actF D).2) else actF D
theorem act_wait {D : Dsk} (h : (actF D).1 = 0) : (actF D).2.wait = D.wait ∧ (actF D).2.on = D.on ∧ (actF D).2.dead = D.dead ∧ (actF D).2.keep = D.keep := by
  unfold actF at h ⊢
  split
  · exact ⟨rfl, rfl, rfl, rfl⟩
  · rename_i hl
    rw [hl] at h; cases h
  · exact ⟨rfl, rfl, rfl, rfl⟩
theorem flush_calls (d : Dk) (ok : d.D.Ok) (hkl : d.D.keep.length ≤ 1000000) (hwl : d.D.wait.length ≤ 1000000000) (w : World) (hw : ∀ it ∈ [dkI d], Here it w) :
    Ct Tryz.prog 52 #[.pointer (some ⟨d.b, 0, none⟩)] w (foots [dkI d]) (fun _ : Dk => .int .i64 ((flushG d.D).1 : Nat)) (dkOf d (flushG d.D).2) (fun d' => [dkI d']) := by
  refine cu_of [_] _ Tryz.func52 rfl rfl hw (.cons (fun _ h => nomatch h) .nil) ?_
  simp only [argSlots]
  refine goA ?_
  refine l_opg rfl (o_pure rfl (by kernel_rfl) rfl (fun w1 hw1 => power_calls d w1 (Here.of (hw1.item _ (.head _)) (bundle_stable _)))) fun _ => ?_
  unfold flushG
  cases hd : d.D.dead with
  | true =>
    simp only [if_true]
    refine goA ?_
    exact x_ct d rfl rfl rfl ⟨rfl, rfl, rfl⟩ (.refl _) (by simp [dkI, bundle_stable])
  | false =>
    simp only [Bool.false_eq_true, if_false]
    refine goA ?_
    refine l_opg rfl (o_cu (pre := [dkI d]) rfl (by kernel_rfl) rfl (by first | (simp [pt_stable, own_stable, mp_stable]; done) | (intro it hm; (iterate 6 (all_goals try (rcases hm with _ | ⟨_, hm⟩))) <;> first | exact bundle_stable _ | exact pt_stable _ _ _ | exact own_stable _ _ _ _ _ _)) (fun w1 hw1 hh1 ha1 => act_calls d ok hkl hwl w1 hh1)) fun ⟨x, hx⟩ => ?_
    have hok := act_ok ok
    by_cases he : (actF d.D).1 = 0
    · obtain ⟨hwt, hon, hdd, hkk⟩ := act_wait he
      rw [if_pos he, he]
      dsimp only
      obtain ⟨h1, h2, h3⟩ := hx
      rw [← h3] at hwt hon hdd hkk hok ⊢
      rw [← h1]
      have hwl2 : x.D.wait.length ≤ 1000000000 := by rw [hwt]; exact hwl
      refine goA ?_
      refine l_imp (m' := dkL x) (fun w' hw' => dk_open hw') ?_
      unfold dkL
      refine l_fact (fun w' hw' => own_val (hw'.item (own 152 513 x.w x.D.wait.length (rowsV wrV x.D.wait)) (by simp)).1) fun ⟨hv, hc⟩ => ?_
      refine goA ?_
      rw [hv]
      refine goA ?_
      refine t_for (α := Nat) (fun i => [(0, .pointer (some ⟨x.b, 0, none⟩)), (20, .slice (slA x.w) x.D.wait.length (slC x.w)), (21, .int .i64 x.D.wait.length), (22, .int .i64 i)]) (fun i => i ≤ x.D.wait.length)
        (fun i => [pt x.onB (.cells (secsV (appN x.D.on x.D.wait (fun _ => true) i)).toArray 150 (0, 0)), own 152 513 x.w x.D.wait.length (rowsV wrV x.D.wait), pt x.b (.cells (dkCells x).toArray 100 (0, 0))]) (fun i => x.D.wait.length - i) 0 ⟨rfl, rfl, rfl, rfl, trivial⟩ (Nat.zero_le _) (fun w' hw' => hw'.pick [1, 2, 0] rfl rfl) fun i hi => ?_
      have hmany := hok.many
      by_cases hi2 : i < x.D.wait.length
      · obtain ⟨bw, cw, hbw⟩ : ∃ b c, x.w = some (b, c) := by
          cases h : x.w with
          | none => rw [h, show slC none = 0 from rfl] at hc; omega
          | some bc => exact ⟨bc.1, bc.2, rfl⟩
        rw [hbw]
        have hrow := fun (w' : World) (hp : (own 152 513 (some (bw, cw)) x.D.wait.length (rowsV wrV x.D.wait)).prop w') => wait_row hok hi2 hp
        have hsz := hok.wsize _ (List.getElem_mem hi2)
        have hgd : x.D.wait.getD i ([], 0) = x.D.wait[i] := by rw [List.getD_eq_getElem?_getD, List.getElem?_eq_getElem hi2]; rfl
        have hup : appN x.D.on x.D.wait (fun _ => true) (i + 1) = (appN x.D.on x.D.wait (fun _ => true) i).set x.D.wait[i].2 x.D.wait[i].1 := by rw [appN, hgd, if_pos rfl]
        have h512 := appN_512 hok (fun _ => true) i hi
        have hal := appN_len x.D.on x.D.wait (fun _ => true) i
        generalize appN x.D.on x.D.wait (fun _ => true) i = L at hup h512 hal ⊢
        generalize x.D.wait[i] = p at hrow hsz hup
        have hwl' := wrV_len hsz.1
        have hbl : (bytesV p.1).length = 512 := by rw [bytesV_length, hsz.1]
        have hsl := secsV_len h512
        refine goA ?_
        refine l_w rfl (v_loadc (xs := wrV p) rfl (by rw [hwl']; rfl) (fun w' hw' => by rw [Nat.zero_add]; exact hrow w' (hw'.item _ (.tail _ (.head _))).1)) ?_
        refine l_alloca rfl rfl fun b6 hb6 => ?_
        refine l_op rfl (o_storea (cs' := (wrV p).toArray) rfl rfl rfl (by rw [List.size_toArray, hwl']; rfl) (wrV_one _) (by rw [List.size_toArray, hwl']; rfl)) fun _ => ?_
        refine l_nil (x_then ?_)
        refine t_pick [1, 0, 2, 3] rfl rfl ?_
        refine goA ?_
        refine t_drawm [0, 1, 2, 3] 9 rfl rfl (by kernel_rfl) ?_
        (repeat first | (apply d_w [5, 7] rfl rfl rfl (by kernel_rfl) (fun _ h => by first | exact h | exact Hp.sub h (.cons _ (.refl _)) | exact Hp.sub h (.cons _ (.cons _ (.refl _))) | exact Hp.sub h (.cons _ (.cons _ (.cons _ (.refl _)))) | exact Hp.sub h (.cons _ (.cons _ (.cons _ (.cons _ (.refl _))))) | exact Hp.sub h (.cons _ (.cons _ (.cons _ (.cons _ (.cons _ (.refl _)))))) | exact Hp.sub h (.cons _ (.cons _ (.cons _ (.cons _ (.cons _ (.cons _ (.refl _))))))) | exact Hp.sub h (.cons_cons _ (.cons_cons _ (List.nil_sublist _))) | exact Hp.sub h (.cons _ (.cons_cons _ (.cons_cons _ (List.nil_sublist _))))); focus (first | exact v_move rfl | exact v_assign rfl | exact v_bt rfl rfl | exact v_extract rfl rfl | exact v_field0 rfl rfl | exact v_field rfl rfl | exact v_lens rfl rfl | exact v_lenstr rfl rfl | exact v_nt rfl | exact v_load1p rfl rfl (by repeat first | exact .head _ | apply List.Mem.tail) | exact v_loadn rfl rfl (by repeat first | exact .head _ | apply List.Mem.tail) rfl | exact v_loadp rfl rfl (by repeat first | exact .head _ | apply List.Mem.tail) rfl | exact v_loada rfl rfl (by repeat first | exact .head _ | apply List.Mem.tail) | exact v_eqb rfl rfl rfl | exact v_slA rfl rfl rfl | exact v_builds rfl rfl rfl rfl rfl | exact v_eqs rfl rfl | exact v_nc rfl | exact v_caps rfl rfl | exact v_eqpn rfl rfl rfl | exact v_nepn rfl rfl rfl | exact v_neps rfl rfl rfl rfl | ((first | refine v_bn rfl rfl ?_ | refine v_is1 rfl rfl rfl ?_ | refine v_ia1 rfl rfl rfl ?_ | refine v_sa rfl rfl rfl ?_ | refine v_sF rfl rfl rfl ?_ | refine v_sT rfl rfl rfl ?_ | refine v_sFT rfl rfl rfl rfl ?_ | refine v_lF rfl rfl rfl rfl ?_ | refine v_is rfl rfl rfl ?_ | refine v_ia rfl rfl rfl ?_ | refine v_lT rfl rfl rfl rfl ?_ | refine v_cv rfl rfl rfl ?_ | refine v_slLH rfl rfl rfl rfl rfl ?_ | refine v_sl3 rfl rfl rfl rfl rfl ?_); first | omega | assumption) | exact v_pT rfl rfl (by first | omega | assumption | (simp; done) | exact fun h => h (by assumption) | fail) | exact v_pF rfl rfl (by first | omega | assumption | (simp; done) | exact fun h => h (by assumption) | fail) | exact v_pickB rfl rfl rfl)) | refine d_no [5, 7] rfl rfl rfl (by kernel_rfl) (fun _ h => by first | exact h | exact Hp.sub h (.cons _ (.refl _)) | exact Hp.sub h (.cons _ (.cons _ (.refl _))) | exact Hp.sub h (.cons _ (.cons _ (.cons _ (.refl _)))) | exact Hp.sub h (.cons _ (.cons _ (.cons _ (.cons _ (.refl _))))) | exact Hp.sub h (.cons _ (.cons _ (.cons _ (.cons _ (.cons _ (.refl _)))))) | exact Hp.sub h (.cons _ (.cons _ (.cons _ (.cons _ (.cons _ (.cons _ (.refl _))))))) | exact Hp.sub h (.cons_cons _ (.cons_cons _ (List.nil_sublist _))) | exact Hp.sub h (.cons _ (.cons_cons _ (.cons_cons _ (List.nil_sublist _))))) ?_ | refine d_T [5, 7] rfl rfl rfl rfl (by first | omega | assumption | (simp; done) | exact fun h => h (by assumption) | fail) ?_ | refine d_F [5, 7] rfl rfl rfl rfl (by first | omega | assumption | (simp; done) | exact fun h => h (by assumption) | fail) ?_)
        refine d_v [7] rfl rfl (by kernel_rfl) (fun _ h => by first | exact h | exact Hp.sub h (.cons _ (.refl _)) | exact Hp.sub h (.cons _ (.cons _ (.refl _))) | exact Hp.sub h (.cons _ (.cons _ (.cons _ (.refl _)))) | exact Hp.sub h (.cons _ (.cons _ (.cons _ (.cons _ (.refl _))))) | exact Hp.sub h (.cons _ (.cons _ (.cons _ (.cons _ (.cons _ (.refl _)))))) | exact Hp.sub h (.cons _ (.cons _ (.cons _ (.cons _ (.cons _ (.cons _ (.refl _))))))) | exact Hp.sub h (.cons_cons _ (.cons_cons _ (List.nil_sublist _))) | exact Hp.sub h (.cons _ (.cons_cons _ (.cons_cons _ (List.nil_sublist _))))) rfl rfl (v_loadp rfl rfl (.tail _ (.head _)) (by rw [List.getElem?_toArray]; exact wr_cell hsz.1)) ?_
        (repeat first | (apply d_w [7] rfl rfl rfl (by kernel_rfl) (fun _ h => by first | exact h | exact Hp.sub h (.cons _ (.refl _)) | exact Hp.sub h (.cons _ (.cons _ (.refl _))) | exact Hp.sub h (.cons _ (.cons _ (.cons _ (.refl _)))) | exact Hp.sub h (.cons _ (.cons _ (.cons _ (.cons _ (.refl _))))) | exact Hp.sub h (.cons _ (.cons _ (.cons _ (.cons _ (.cons _ (.refl _)))))) | exact Hp.sub h (.cons _ (.cons _ (.cons _ (.cons _ (.cons _ (.cons _ (.refl _))))))) | exact Hp.sub h (.cons_cons _ (.cons_cons _ (List.nil_sublist _))) | exact Hp.sub h (.cons _ (.cons_cons _ (.cons_cons _ (List.nil_sublist _))))); focus (first | exact v_move rfl | exact v_assign rfl | exact v_bt rfl rfl | exact v_extract rfl rfl | exact v_field0 rfl rfl | exact v_field rfl rfl | exact v_lens rfl rfl | exact v_lenstr rfl rfl | exact v_nt rfl | exact v_load1p rfl rfl (by repeat first | exact .head _ | apply List.Mem.tail) | exact v_loadn rfl rfl (by repeat first | exact .head _ | apply List.Mem.tail) rfl | exact v_loadp rfl rfl (by repeat first | exact .head _ | apply List.Mem.tail) rfl | exact v_loada rfl rfl (by repeat first | exact .head _ | apply List.Mem.tail) | exact v_eqb rfl rfl rfl | exact v_slA rfl rfl rfl | exact v_builds rfl rfl rfl rfl rfl | exact v_eqs rfl rfl | exact v_nc rfl | exact v_caps rfl rfl | exact v_eqpn rfl rfl rfl | exact v_nepn rfl rfl rfl | exact v_neps rfl rfl rfl rfl | ((first | refine v_bn rfl rfl ?_ | refine v_is1 rfl rfl rfl ?_ | refine v_ia1 rfl rfl rfl ?_ | refine v_sa rfl rfl rfl ?_ | refine v_sF rfl rfl rfl ?_ | refine v_sT rfl rfl rfl ?_ | refine v_sFT rfl rfl rfl rfl ?_ | refine v_lF rfl rfl rfl rfl ?_ | refine v_is rfl rfl rfl ?_ | refine v_ia rfl rfl rfl ?_ | refine v_lT rfl rfl rfl rfl ?_ | refine v_cv rfl rfl rfl ?_ | refine v_slLH rfl rfl rfl rfl rfl ?_ | refine v_sl3 rfl rfl rfl rfl rfl ?_); first | omega | assumption) | exact v_pT rfl rfl (by first | omega | assumption | (simp; done) | exact fun h => h (by assumption) | fail) | exact v_pF rfl rfl (by first | omega | assumption | (simp; done) | exact fun h => h (by assumption) | fail) | exact v_pickB rfl rfl rfl)) | refine d_no [7] rfl rfl rfl (by kernel_rfl) (fun _ h => by first | exact h | exact Hp.sub h (.cons _ (.refl _)) | exact Hp.sub h (.cons _ (.cons _ (.refl _))) | exact Hp.sub h (.cons _ (.cons _ (.cons _ (.refl _)))) | exact Hp.sub h (.cons _ (.cons _ (.cons _ (.cons _ (.refl _))))) | exact Hp.sub h (.cons _ (.cons _ (.cons _ (.cons _ (.cons _ (.refl _)))))) | exact Hp.sub h (.cons _ (.cons _ (.cons _ (.cons _ (.cons _ (.cons _ (.refl _))))))) | exact Hp.sub h (.cons_cons _ (.cons_cons _ (List.nil_sublist _))) | exact Hp.sub h (.cons _ (.cons_cons _ (.cons_cons _ (List.nil_sublist _))))) ?_ | refine d_T [7] rfl rfl rfl rfl (by first | omega | assumption | (simp; done) | exact fun h => h (by assumption) | fail) ?_ | refine d_F [7] rfl rfl rfl rfl (by first | omega | assumption | (simp; done) | exact fun h => h (by assumption) | fail) ?_)
        refine d_v [] rfl rfl (by kernel_rfl) (fun _ h => by first | exact h | exact Hp.sub h (.cons _ (.refl _)) | exact Hp.sub h (.cons _ (.cons _ (.refl _))) | exact Hp.sub h (.cons _ (.cons _ (.cons _ (.refl _)))) | exact Hp.sub h (.cons _ (.cons _ (.cons _ (.cons _ (.refl _))))) | exact Hp.sub h (.cons _ (.cons _ (.cons _ (.cons _ (.cons _ (.refl _)))))) | exact Hp.sub h (.cons _ (.cons _ (.cons _ (.cons _ (.cons _ (.cons _ (.refl _))))))) | exact Hp.sub h (.cons_cons _ (.cons_cons _ (List.nil_sublist _))) | exact Hp.sub h (.cons _ (.cons_cons _ (.cons_cons _ (List.nil_sublist _))))) rfl rfl (v_loadc (xs := bytesV p.1) rfl (by rw [hbl]; rfl) (fun w' hw' => wr_bytes (rangeAt_pt (hw'.get (b := b6) (.tail _ (.head _)))))) ?_
        refine goE ?_
        refine d_tail ⟨by kernel_rfl, by kernel_rfl⟩ rfl rfl (o_storerE (V := bytesV p.1) rfl rfl rfl rfl (by rw [hbl]; rfl) (bytesV_one _) (by rw [hbl, hsl, hal]; omega)) fun _ => ?_
        rw [Nat.zero_add, secsV_set h512 (by rw [hal]; exact hsz.2) hsz.1, ← hup]
        refine goA ?_
        exact x_round (i + 1) ⟨rfl, rfl, rfl, rfl, trivial⟩ hi2 (fun w' hw' => hw'.pick [0, 2, 3] rfl rfl) (by omega)
      · obtain rfl : i = x.D.wait.length := by omega
        refine goA ?_
        refine l_op rfl (ho_perm (bring2 _ _ _ _) (o_store1 rfl rfl rfl rfl rfl rfl (show (3 : Nat) < 6 from by decide))) fun _ => ?_
        refine goA ?_
        have hcl : (dkCells { x with w := none, D := flushF x.D }).toArray = (dkCells x).toArray.setIfInBounds (0 + 3) (.slice none 0 0) := by
          show #[_, _, Value.slice _ (appN x.D.on x.D.wait (fun _ => true) x.D.wait.length).length (appN x.D.on x.D.wait (fun _ => true) x.D.wait.length).length, _, _, _] = _
          rw [appN_len]; rfl
        refine x_imp (m' := [dkI { x with w := none, D := flushF x.D }]) (fun w' hw' => dk_close (m := []) ?_) (x_ct { x with w := none, D := flushF x.D } rfl rfl rfl ⟨h1, h2, rfl⟩ (.refl _) (by simp [dkI, bundle_stable]))
        rw [List.append_nil]
        unfold dkL
        rw [hcl]
        exact (hp_nil1 152 513 hw').pick [1, 2, 0] rfl rfl
    · rw [if_neg he]
      refine goA ?_
      exact x_ct x rfl rfl rfl hx (.refl _) (by simp [dkI, bundle_stable])
end Go.Proofs.YtplhamichcnmmaaGreatDoor
