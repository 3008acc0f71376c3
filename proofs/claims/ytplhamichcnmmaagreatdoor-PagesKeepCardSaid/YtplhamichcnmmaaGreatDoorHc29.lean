/- package pages: text. -/
/- package pages: images. -/
/- package pages: all, whatever its steps. -/
/- package pages: out. -/
import Derived.Test.YtplhamichcnmmaaGreatDoorHc28
namespace Go.Proofs.YtplhamichcnmmaaGreatDoor
open Go.RowKit Go.Eng Go.Eng.Bm
set_option maxRecDepth 100000
set_option maxHeartbeats 40000000
def textP (R : PR) : Bys := R.flatMap fun p => beN 2 p.1 ++ p.2
theorem textP_len {R : PR} {n : Nat} (h : R.Ok n) : (textP R).length = 514 * R.length := by
  induction R with
  | nil => rfl
  | cons p R ih =>
    have h1 := (h p (.head _)).2
    have h2 := ih fun q hq => h q (.tail _ hq)
    unfold textP at h2 ⊢
    rw [List.flatMap_cons, List.length_append, List.length_append, beN_length, h1, h2, List.length_cons]
    omega
theorem textP_snoc (R : PR) (p : Nat × Bys) : textP (R ++ [p]) = textP R ++ beN 2 p.1 ++ p.2 := by
  simp [textP]
theorem pgtext_calls (s : Pg) (d : Dk) (hn : s.n ≤ 1024) (hC : s.C.Ok s.n) (hCl : s.C.length ≤ 1024) (w : World) (hw : ∀ it ∈ [pgI s d], Here it w) :
    Ct Tryz.prog 73 #[.pointer (some ⟨s.b, 0, none⟩)] w (foots [pgI s d]) (fun _ : Unit => .string ⟨(textP (rowsS s.C)).toArray⟩) (fun _ => True) (fun _ => [pgI s d]) := by
  refine cu_of [_] _ Tryz.func73 rfl rfl hw (.cons (fun _ h => nomatch h) .nil) ?_
  simp only [argSlots]
  refine t_imp (m' := pgL s d) (fun w h => pg_open (m := []) h) ?_
  unfold pgL
  refine goA ?_
  refine l_ctg rfl rfl (by kernel_rfl) rfl (fun w1 hw1 => new_calls w1) fun x hx => ?_
  obtain ⟨pb, hpb⟩ : ∃ pb, pb = x := ⟨x, rfl⟩
  subst hpb
  refine goA ?_
  refine l_say 13 _ (.map (some s.cb)) rfl rfl ?_
  refine l_ctg rfl rfl (by kernel_rfl) rfl (fun w1 hw1 => keys_calls s.cb w1) fun x hx => ?_
  have hkl2 : (toP s.C).length = s.C.length := by simp [toP]
  have hke : keysN (toP s.C) = s.C.map (·.1) := by simp [keysN, toP, Function.comp_def]
  refine l_pick [0, 7, 1, 2, 3, 4, 5, 6] rfl rfl ?_
  refine l_opg rfl (o_cu (pre := kyI x s.cb (toP s.C)) rfl (by kernel_rfl) rfl (kyI_stable _ _ _) (fun w1 hw1 hh1 ha1 => sortedkeys_calls x s.cb (toP s.C) (by omega) w1 hh1 ha1)) fun ⟨o, _⟩ => ?_
  rw [hkl2, hke]
  dsimp only
  refine l_fact (fun w hw => (own_val (hw.item (own 3 1 o s.C.length (intsV (srtN (s.C.map (·.1))))) (.head _)).1)) fun ⟨hsl, hcap⟩ => ?_
  rw [hsl]
  refine goA ?_
  have hrl : (rowsS s.C).length = s.C.length := by rw [rowsS, List.length_map, srtN_len, List.length_map]
  have hro := rowsS_ok hC
  have htk : ∀ k (hk : k < s.C.length), textP ((rowsS s.C).take (k + 1)) = textP ((rowsS s.C).take k) ++ beN 2 ((rowsS s.C)[k]'(by omega)).1 ++ ((rowsS s.C)[k]'(by omega)).2 := fun k hk => by
    rw [List.take_add_one, List.getElem?_eq_getElem (by omega)]
    exact textP_snoc _ _
  have htl : ∀ k, k ≤ s.C.length → (textP ((rowsS s.C).take k)).length = 514 * k := fun k hk => by
    rw [textP_len (n := s.n) (fun p hp => hro p (List.mem_of_mem_take hp)), List.length_take, hrl, Nat.min_eq_left hk]
  have hall : (rowsS s.C).take s.C.length = rowsS s.C := List.take_of_length_le (by omega)
  refine t_for (α := Nat × Option (Nat × Nat)) (fun y => [(0, .pointer (some ⟨s.b, 0, none⟩)), (3, .pointer (some ⟨pb, 0, none⟩)), (15, .slice (slA o) s.C.length (slC o)), (16, .int .i64 s.C.length), (17, .int .i64 y.1)]) (fun y => y.1 ≤ s.C.length) (fun y => pks pb y.2 (textP ((rowsS s.C).take y.1)) ++ [pgC s d, lgI s.bl d s.g, mapN .i64 s.kb (toP s.K), mapN .i64 s.db (toB s.R), mapN .i64 s.cb (toP s.C), own 3 1 o s.C.length (intsV (srtN (s.C.map (·.1))))]) (fun y => s.C.length - y.1) (0, none) ⟨rfl, rfl, rfl, rfl, rfl, trivial⟩ (Nat.zero_le _) (fun w hw => hw.pick [2, 3, 4, 5, 6, 7, 1, 0] rfl rfl) fun ⟨k, po⟩ hk => ?_
  simp only at hk ⊢
  by_cases hkn : k < s.C.length
  · have htk2 := htk k hkn
    have htl1 := htl k (by omega)
    generalize textP ((rowsS s.C).take k) = tx at htk2 htl1 ⊢
    have hin := hro _ (List.getElem_mem (l := rowsS s.C) (n := k) (by omega))
    have hsk : (srtN (s.C.map (·.1)))[k]? = some ((rowsS s.C)[k]'(by omega)).1 := by
      rw [List.getElem?_eq_getElem (by rw [srtN_len, List.length_map]; exact hkn)]
      simp [rowsS]
    have hlk : s.C.lookup ((rowsS s.C)[k]'(by omega)).1 = some ((rowsS s.C)[k]'(by omega)).2 := by
      have h1 : ((rowsS s.C)[k]'(by omega)).1 ∈ s.C.map (·.1) := srtN_mem.1 (List.mem_of_getElem? hsk)
      obtain ⟨b, hb⟩ := keys_look h1
      rw [hb]
      simp only [rowsS, List.getElem_map] at hb ⊢
      rw [hb]
      rfl
    generalize (rowsS s.C)[k]'(by omega) = p at hin hsk hlk htk2
    obtain ⟨i, bs⟩ := p
    simp only at hin hsk hlk htk2
    rcases o with _ | ⟨ob, oc⟩
    · refine t_fact (fun w hw => (hw.item (own 3 1 none s.C.length (intsV (srtN (s.C.map (·.1))))) (by simp)).1.2) fun h => ?_
      exact absurd h (by omega)
    have hcell : ∀ {m : List Eng.Item} {w2 : World} {F2 : Nat → Prop} (w' : World), Hp w2 F2 m w' → own 3 1 (some (ob, oc)) s.C.length (intsV (srtN (s.C.map (·.1)))) ∈ m → w'.cell? ⟨ob, k, none⟩ = some (.int .i64 (i : Int)) := fun w' hw' hm => own_rd (hw'.item _ hm).1 k _ (by simp [intsV, hsk])
    simp only [slA, slC]
    have hbl : (bytesV bs).length = 512 := by rw [bytesV_length, hin.2]
    refine goA ?_
    refine l_w rfl (v_load (v := .int .i64 (i : Int)) rfl rfl (fun w' hw' => by rw [Nat.zero_add]; exact hcell w' hw' (by simp))) ?_
    refine goA ?_
    refine l_w rfl (v_lookN1 (q := .i64) (h := i) (A := toP s.C) (b := s.cb) rfl rfl rfl rfl rfl (okI (by omega)) (by simp)) ?_
    rw [toP_lookup, hlk]
    simp only [Option.map_some, Option.getD_some, pgV]
    refine goA ?_
    refine l_alloca rfl rfl fun b7 hb7 => ?_
    refine l_op rfl (o_storea (cs' := (bytesV bs).toArray) rfl rfl rfl (by rw [List.size_toArray, hbl]; rfl) (bytesV_one _) (by rw [List.size_toArray, hbl]; rfl)) fun _ => ?_
    refine goA ?_
    refine t_pick [1, 2, 0, 3, 4, 5, 6, 7, 8] rfl rfl ?_
    refine t_drawm [2, 3, 4, 5, 6, 7, 8] 7 rfl rfl (by kernel_rfl) ?_
    (repeat first | (apply d_w [4] rfl rfl rfl (by kernel_rfl) (fun _ h => by first | exact h | exact Hp.sub h (.cons _ (.refl _)) | exact Hp.sub h (.cons _ (.cons _ (.refl _))) | exact Hp.sub h (.cons _ (.cons _ (.cons _ (.refl _)))) | exact Hp.sub h (.cons _ (.cons _ (.cons _ (.cons _ (.refl _))))) | exact Hp.sub h (.cons _ (.cons _ (.cons _ (.cons _ (.cons _ (.refl _)))))) | exact Hp.sub h (.cons _ (.cons _ (.cons _ (.cons _ (.cons _ (.cons _ (.refl _))))))) | exact Hp.sub h (.cons_cons _ (.cons_cons _ (List.nil_sublist _))) | exact Hp.sub h (.cons _ (.cons_cons _ (.cons_cons _ (List.nil_sublist _))))); focus (first | exact v_move rfl | exact v_assign rfl | exact v_bt rfl rfl | exact v_extract rfl rfl | exact v_field0 rfl rfl | exact v_field rfl rfl | exact v_lens rfl rfl | exact v_lenstr rfl rfl | exact v_nt rfl | exact v_load1p rfl rfl (by repeat first | exact .head _ | apply List.Mem.tail) | exact v_loadn rfl rfl (by repeat first | exact .head _ | apply List.Mem.tail) rfl | exact v_loadp rfl rfl (by repeat first | exact .head _ | apply List.Mem.tail) rfl | exact v_loada rfl rfl (by repeat first | exact .head _ | apply List.Mem.tail) | exact v_eqb rfl rfl rfl | exact v_slA rfl rfl rfl | exact v_builds rfl rfl rfl rfl rfl | exact v_eqs rfl rfl | exact v_nc rfl | exact v_caps rfl rfl | exact v_eqpn rfl rfl rfl | exact v_nepn rfl rfl rfl | exact v_neps rfl rfl rfl rfl | ((first | refine v_bn rfl rfl ?_ | refine v_is1 rfl rfl rfl ?_ | refine v_ia1 rfl rfl rfl ?_ | refine v_sa rfl rfl rfl ?_ | refine v_sF rfl rfl rfl ?_ | refine v_sT rfl rfl rfl ?_ | refine v_sFT rfl rfl rfl rfl ?_ | refine v_lF rfl rfl rfl rfl ?_ | refine v_is rfl rfl rfl ?_ | refine v_ia rfl rfl rfl ?_ | refine v_lT rfl rfl rfl rfl ?_ | refine v_cv rfl rfl rfl ?_ | refine v_slLH rfl rfl rfl rfl rfl ?_ | refine v_sl3 rfl rfl rfl rfl rfl ?_); first | omega | assumption) | exact v_pT rfl rfl (by first | omega | assumption | (simp; done) | exact fun h => h (by assumption) | fail) | exact v_pF rfl rfl (by first | omega | assumption | (simp; done) | exact fun h => h (by assumption) | fail) | exact v_pickB rfl rfl rfl)) | refine d_no [4] rfl rfl rfl (by kernel_rfl) (fun _ h => by first | exact h | exact Hp.sub h (.cons _ (.refl _)) | exact Hp.sub h (.cons _ (.cons _ (.refl _))) | exact Hp.sub h (.cons _ (.cons _ (.cons _ (.refl _)))) | exact Hp.sub h (.cons _ (.cons _ (.cons _ (.cons _ (.refl _))))) | exact Hp.sub h (.cons _ (.cons _ (.cons _ (.cons _ (.cons _ (.refl _)))))) | exact Hp.sub h (.cons _ (.cons _ (.cons _ (.cons _ (.cons _ (.cons _ (.refl _))))))) | exact Hp.sub h (.cons_cons _ (.cons_cons _ (List.nil_sublist _))) | exact Hp.sub h (.cons _ (.cons_cons _ (.cons_cons _ (List.nil_sublist _))))) ?_ | refine d_T [4] rfl rfl rfl rfl (by first | omega | assumption | (simp; done) | exact fun h => h (by assumption) | fail) ?_ | refine d_F [4] rfl rfl rfl rfl (by first | omega | assumption | (simp; done) | exact fun h => h (by assumption) | fail) ?_)
    refine d_v [3] rfl rfl (by kernel_rfl) (fun _ h => by first | exact h | exact Hp.sub h (.cons _ (.refl _)) | exact Hp.sub h (.cons _ (.cons _ (.refl _))) | exact Hp.sub h (.cons _ (.cons _ (.cons _ (.refl _)))) | exact Hp.sub h (.cons _ (.cons _ (.cons _ (.cons _ (.refl _))))) | exact Hp.sub h (.cons _ (.cons _ (.cons _ (.cons _ (.cons _ (.refl _)))))) | exact Hp.sub h (.cons _ (.cons _ (.cons _ (.cons _ (.cons _ (.cons _ (.refl _))))))) | exact Hp.sub h (.cons_cons _ (.cons_cons _ (List.nil_sublist _))) | exact Hp.sub h (.cons _ (.cons_cons _ (.cons_cons _ (List.nil_sublist _))))) rfl rfl (v_slarr (n := 512) rfl rfl rfl rfl) ?_
    refine d_v [3] rfl rfl (by kernel_rfl) (fun _ h => by first | exact h | exact Hp.sub h (.cons _ (.refl _)) | exact Hp.sub h (.cons _ (.cons _ (.refl _))) | exact Hp.sub h (.cons _ (.cons _ (.cons _ (.refl _)))) | exact Hp.sub h (.cons _ (.cons _ (.cons _ (.cons _ (.refl _))))) | exact Hp.sub h (.cons _ (.cons _ (.cons _ (.cons _ (.cons _ (.refl _)))))) | exact Hp.sub h (.cons _ (.cons _ (.cons _ (.cons _ (.cons _ (.cons _ (.refl _))))))) | exact Hp.sub h (.cons_cons _ (.cons_cons _ (List.nil_sublist _))) | exact Hp.sub h (.cons _ (.cons_cons _ (.cons_cons _ (List.nil_sublist _))))) rfl rfl (v_bstr (bs := bs) rfl hin.2.symm rfl rfl (fun w' hw' => .inr ⟨b7, 0, rfl, rangeAt_pt (hw'.get (b := b7) (.head _))⟩)) ?_
    refine d_opg 3 ⟨by kernel_rfl, by decide⟩ rfl rfl (o_cu (pre := pks pb po tx) rfl (by kernel_rfl) rfl (by simp [pt_stable, own_stable]) (fun w1 hw1 hh1 ha1 => put_calls pb po tx 2 i (.inr (.inl rfl)) (by omega) (by omega) w1 hh1 ha1)) (fun _ _ h => goH h) fun ⟨o1, _⟩ => ?_
    refine goE ?_
    have hlen2 : (tx ++ beN 2 i).length = 514 * k + 2 := by rw [List.length_append, beN_length, htl1]
    refine d_opg 6 ⟨by kernel_rfl, by decide⟩ rfl rfl (o_cu (pre := pks pb o1 (tx ++ beN 2 i)) rfl (by kernel_rfl) rfl (by simp [pt_stable, own_stable]) (fun w1 hw1 hh1 ha1 => text_calls pb o1 (tx ++ beN 2 i) ⟨bs.toArray⟩ (by rw [hlen2, bal, hin.2]; omega) w1 hh1 ha1)) (fun _ _ h => goH h) fun ⟨o2, _⟩ => ?_
    refine d_end (by kernel_rfl) ?_
    refine goA ?_
    refine x_round (k + 1, o2) ⟨rfl, rfl, rfl, rfl, rfl, trivial⟩ hkn (fun w hw => ?_) (by show s.C.length - (k + 1) < s.C.length - k; omega)
    show Hp _ _ (pks pb o2 (textP ((rowsS s.C).take (k + 1))) ++ _) w
    rw [htk2]
    exact hw.pick [0, 1, 3, 4, 5, 6, 7, 8] rfl rfl
  · obtain rfl : k = s.C.length := by omega
    rw [hall]
    have htl1 := htl _ (Nat.le_refl _)
    rw [hall] at htl1
    generalize textP (rowsS s.C) = tx at htl1 ⊢
    refine goA ?_
    refine l_opg rfl (o_cu (pre := pks pb po tx) rfl (by kernel_rfl) rfl (by simp [pt_stable, own_stable]) (fun w1 hw1 hh1 ha1 => bytes_calls pb po tx (by omega) w1 hh1 ha1)) fun ⟨o2, _⟩ => ?_
    dsimp only
    refine l_fact (fun w hw => (own_val (hw.item (own 5 1 o2 tx.length (bytesV tx)) (.head _)).1)) fun ⟨hsl2, _⟩ => ?_
    rw [hsl2]
    refine goA ?_
    refine l_w rfl (v_bstr (bs := tx) rfl rfl rfl rfl (fun w' hw' => own_Rd (hw'.item (own 5 1 o2 tx.length (bytesV tx)) (.head _)).1)) ?_
    refine goA ?_
    exact x_imp (m' := [pgI s d]) (fun w' hw' => pg_close (m := []) (hw'.pick [3, 4, 5, 6, 7] rfl rfl)) (x_ct () rfl rfl rfl trivial (.refl _) (pg1_stable _ _))
end Go.Proofs.YtplhamichcnmmaaGreatDoor

namespace Go.Proofs.YtplhamichcnmmaaGreatDoor
open Go.RowKit Go.Eng Go.Eng.Bm
set_option maxRecDepth 100000
set_option maxHeartbeats 40000000
def imgF (A : PR) (R : PR) : PR := R.foldl (fun A p => insG A p.1 p.2) A
theorem imgF_snoc (A R : PR) (p : Nat × Bys) : imgF A (R ++ [p]) = insG (imgF A R) p.1 p.2 := by simp [imgF]
theorem textP_cons (p : Nat × Bys) (R : PR) : textP (p :: R) = beN 2 p.1 ++ (p.2 ++ textP R) := by simp [textP]
theorem images_calls (s : Pg) (d : Dk) (R : PR) (hn : s.n ≤ 1024) (hR : R.Ok s.n) (hRl : R.length ≤ 100000) (w : World) (h : Here (pgI s d) w) :
    Ct Tryz.prog 49 #[.pointer (some ⟨s.b, 0, none⟩), .string ⟨(textP R).toArray⟩] w none' (fun b : Nat => .tuple #[.map (some b), .bool true]) (fun _ => True) (fun b => [mapN .i64 b (toP (imgF [] R))]) := by
  refine ct_of [_, _] Tryz.func49 rfl rfl ?_
  have htl := textP_len hR
  have hbal := bal (textP R)
  simp only [argSlots, Nat.reduceAdd]
  refine goA ?_
  refine l_op rfl (o_strb rfl rfl rfl rfl) fun ⟨p1, hp1, hp2⟩ => ?_
  dsimp only
  rw [hbal]
  refine goA ?_
  refine l_ctg rfl rfl (by kernel_rfl) rfl (fun w1 hw1 => Of_calls (some ⟨p1.1, 0, none⟩) (textP R).length p1.2 (textP R) rfl (by omega) w1 (.inr ⟨p1.1, 0, rfl, strRow_at (hw1.item (strRow 5 (textP R) p1.1 p1.2) (.head _)).1⟩)) fun x hx => ?_
  obtain ⟨b, oD⟩ := x
  simp only at hx ⊢
  have hsD : (own 5 1 oD (textP R).length (bytesV (textP R))).Stable none' := own_stable _ _ _ _ _ _
  generalize own 5 1 oD (textP R).length (bytesV (textP R)) = D at hx hsD
  refine goA ?_
  refine l_op rfl (o_makemapN (q := .i64) rfl) fun ⟨mb, hmb⟩ => ?_
  refine goA ?_
  refine t_for (α := Nat × (Option Addr × Nat)) (fun y => [(0, .pointer (some ⟨s.b, 0, none⟩)), (6, .pointer (some ⟨b, 0, none⟩)), (7, .map (some mb))]) (fun y => y.1 ≤ R.length ∧ OpOk D y.2.1 y.2.2 (textP (R.drop y.1))) (fun y => [opI b y.2.1 y.2.2 (textP (R.drop y.1), false), D, mapN .i64 mb (toP (imgF [] (R.take y.1)))]) (fun y => R.length - y.1) (0, (slA oD, slC oD)) ⟨rfl, rfl, rfl, trivial⟩ ⟨Nat.zero_le _, hx⟩ (fun w hw => hw.pick [1, 2, 0] rfl rfl) fun ⟨k, y⟩ ⟨hk, hy⟩ => ?_
  simp only at hk hy ⊢
  have htlk := textP_len (R := R.drop k) (n := s.n) (fun p hp => hR p (List.mem_of_mem_drop hp))
  rw [List.length_drop] at htlk
  by_cases hkn : k < R.length
  · have hdr : R.drop k = R[k] :: R.drop (k + 1) := (List.getElem_cons_drop ..).symm
    have hpk := hR _ (List.getElem_mem hkn)
    have hik : imgF [] (R.take (k + 1)) = insG (imgF [] (R.take k)) R[k].1 R[k].2 := by rw [List.take_succ_eq_append_getElem hkn, imgF_snoc]
    rw [hdr, textP_cons] at hy htlk ⊢
    generalize R[k] = p at hpk hik hy htlk ⊢
    obtain ⟨i, bs⟩ := p
    simp only at hpk hik hy htlk ⊢
    obtain ⟨rest, hrest⟩ : ∃ r, textP (R.drop (k + 1)) = r := ⟨_, rfl⟩
    rw [hrest] at hy htlk ⊢
    obtain ⟨hin, hbs⟩ := hpk
    have hbl : (bytesV bs).length = 512 := by rw [bytesV_length, hbs]
    have e1 : opN 2 (beN 2 i ++ (bs ++ rest), false) = (i, (bs ++ rest, false)) := opN_ok (by omega) _
    have e2 : opT 512 (bs ++ rest, false) = (bs, (rest, false)) := by rw [← hbs]; exact opT_ok bs rest
    refine goA ?_
    refine l_opg rfl (o_pure rfl (by kernel_rfl) rfl (fun w1 hw1 => left_calls b y.1 y.2 _ w1 (Here.of (hw1.item (opI b y.1 y.2 (beN 2 i ++ (bs ++ rest), false)) (.head _)) (opI_stable _ _ _ _)))) fun _ => ?_
    simp only [htlk]
    refine goA ?_
    refine l_opg rfl (o_cu (pre := [opI b y.1 y.2 (beN 2 i ++ (bs ++ rest), false), D]) rfl (by kernel_rfl) rfl (by simp [opI_stable, hsD]) (fun w1 hw1 hh1 ha1 => oTakeE i (bs ++ rest, false) e1 hsD hy (.inr (.inl rfl)) (by simp only [htlk]; omega) hh1 ha1)) fun ⟨y1, hy1⟩ => ?_
    simp only at hy1
    have hl2 : (bs ++ rest).length ≤ 1000000000 := by
      rw [List.length_append, beN_length] at htlk
      omega
    refine goA ?_
    refine l_opg rfl (o_cu (pre := [opI b y1.1 y1.2 (bs ++ rest, false), D]) rfl (by kernel_rfl) rfl (by simp [opI_stable, hsD]) (fun w1 hw1 hh1 ha1 => oTextE bs (rest, false) e2 hsD hy1 hl2 hh1 ha1)) fun ⟨y2, hy2⟩ => ?_
    simp only at hy2
    refine goA ?_
    refine l_opg rfl (o_pure rfl (by kernel_rfl) rfl (fun w1 hw1 => err_calls b y2.1 y2.2 (rest, false) w1 (Here.of (hw1.item (opI b y2.1 y2.2 (rest, false)) (.head _)) (opI_stable _ _ _ _)))) fun _ => ?_
    simp only [Bool.false_eq_true, if_false]
    refine goA ?_
    refine l_w rfl (v_load (v := .int .i64 (s.n : Int)) rfl rfl (fun w' hw' => pg_at (h.keep hw') 2 rfl)) ?_
    refine goA ?_
    refine l_op rfl (o_strb rfl rfl rfl rfl) fun ⟨p2, _, _⟩ => ?_
    dsimp only
    rw [bal, hbs]
    refine goA ?_
    refine l_w rfl (v_s2ap rfl rfl (by decide)) ?_
    refine goA ?_
    refine l_w rfl (v_loadcE (xs := bytesV bs) (c := (bytesV bs).toArray) rfl (by rw [hbl]; rfl) (fun w' hw' => strRow_at (hw'.item (strRow 5 bs p2.1 p2.2) (.head _)).1) rfl) ?_
    refine l_pick [3, 0, 1, 2] rfl rfl ?_
    refine l_op rfl (o_mapupN (h := i) (v := pgV bs) rfl rfl rfl rfl rfl rfl (okI (by omega))) fun _ => ?_
    rw [← toP_ins, ← hik]
    refine goA ?_
    exact x_round (k + 1, y2) ⟨rfl, rfl, rfl, trivial⟩ ⟨hkn, by show OpOk _ _ _ (textP (R.drop (k + 1))); rw [hrest]; exact hy2⟩ (fun w hw => by show Hp _ _ [opI _ _ _ (textP (R.drop (k + 1)), false), _, _] w; rw [hrest]; exact hw.pick [2, 3, 0] rfl rfl) (by show R.length - (k + 1) < R.length - k; omega)
  · obtain rfl : k = R.length := by omega
    have hd0 : R.drop R.length = [] := List.drop_length
    rw [hd0, List.take_length]
    refine goA ?_
    refine l_opg rfl (o_pure rfl (by kernel_rfl) rfl (fun w1 hw1 => left_calls b y.1 y.2 _ w1 (Here.of (hw1.item (opI b y.1 y.2 (textP [], false)) (.head _)) (opI_stable _ _ _ _)))) fun _ => ?_
    rw [show ((textP [], false) : Opn).1.length = 0 from rfl]
    refine goA ?_
    exact x_ct2 mb rfl rfl rfl rfl trivial (.cons _ (.cons _ (.refl _))) (by simp [mapN_stable])
end Go.Proofs.YtplhamichcnmmaaGreatDoor

namespace Go.Proofs.YtplhamichcnmmaaGreatDoor
open Go.RowKit Go.Eng
set_option maxRecDepth 100000
set_option maxHeartbeats 40000000
def AllR {σ : Type} : List ((σ → Nat) × (σ → σ → Prop)) → σ → Nat × σ → Prop
  | [], s, x => x = (0, s)
  | t :: r, s, x => ∃ s', t.2 s s' ∧ (if t.1 s = 0 then AllR r s' x else x = (t.1 s, s'))
def fvV (f : FuncId × List Value × List Value) : Value := .func (.func f.1) f.2.1.toArray f.2.2.toArray
abbrev fvI (qb qc : Nat) (fv : List (FuncId × List Value × List Value)) : Eng.Item := own 57 1 (some (qb, qc)) fv.length (fv.map fvV)
theorem all_calls {σ : Type} (B : σ → List Eng.Item) (fv : List (FuncId × List Value × List Value)) (st : List ((σ → Nat) × (σ → σ → Prop))) (hl : st.length = fv.length) (I : Nat → σ → Prop) (s0 : σ) (h0 : I 0 s0)
    (hB : ∀ s, ∀ it ∈ B s, it.Stable none') (hfl : fv.length ≤ 1000)
    (hstep : ∀ k f t s, fv[k]? = some f → st[k]? = some t → I k s → hasBody Tryz.prog f.1 = true ∧ ∀ w, (∀ it ∈ B s, Here it w) → (B s).Pairwise Eng.Item.Apart → Ct Tryz.prog f.1 (f.2.1 ++ f.2.2).toArray w (foots (B s)) (fun _ : σ => .int .i64 (t.1 s : Nat)) (t.2 s) (fun s' => B s'))
    (hI : ∀ k t s s', st[k]? = some t → I k s → t.2 s s' → t.1 s = 0 → I (k + 1) s')
    (qb qc : Nat) (w : World) (hw : ∀ it ∈ B s0 ++ [fvI qb qc fv], Here it w) (ha : (B s0 ++ [fvI qb qc fv]).Pairwise Eng.Item.Apart) :
    Ct Tryz.prog 51 #[.slice (some ⟨qb, 0, none⟩) fv.length qc] w (foots (B s0 ++ [fvI qb qc fv])) (fun x : Nat × σ => .int .i64 (x.1 : Nat)) (AllR st s0) (fun x => B x.2) := by
  refine cu_of [_] _ Tryz.func51 rfl rfl hw ha ?_
  simp only [argSlots]
  refine goA ?_
  refine t_for (α := Nat × σ) (fun y => [(6, .slice (some ⟨qb, 0, none⟩) fv.length qc), (7, .int .i64 fv.length), (8, .int .i64 y.1)]) (fun y => y.1 ≤ fv.length ∧ I y.1 y.2 ∧ ∀ x, AllR (st.drop y.1) y.2 x → AllR st s0 x) (fun y => B y.2 ++ [fvI qb qc fv]) (fun y => fv.length - y.1) (0, s0) ⟨rfl, rfl, rfl, trivial⟩ ⟨Nat.zero_le _, h0, fun _ h => h⟩ (fun w h => h) fun ⟨k, s⟩ ⟨hk, hIk, hR⟩ => ?_
  simp only at hk hIk hR ⊢
  by_cases hkn : k < fv.length
  · have hf : fv[k]? = some fv[k] := List.getElem?_eq_getElem hkn
    have ht : st[k]? = some (st[k]'(by omega)) := List.getElem?_eq_getElem (by omega)
    have hcell : ∀ {m : List Eng.Item} {w2 : World} {F2 : Nat → Prop} (w' : World), Hp w2 F2 m w' → fvI qb qc fv ∈ m → w'.cell? ⟨qb, k, none⟩ = some (fvV fv[k]) := fun w' hw' hm => own_rd (hw'.item _ hm).1 k _ (by simp [hkn])
    have hdr : st.drop k = st[k]'(by omega) :: st.drop (k + 1) := (List.getElem_cons_drop ..).symm
    rw [hdr] at hR
    generalize st[k]'(by omega) = t at ht hR
    generalize fv[k] = f at hf hcell
    obtain ⟨hb, hc⟩ := hstep k f t s hf ht hIk
    have hI2 := hI k t s
    obtain ⟨f, fs, cs⟩ := f
    simp only at hb hc
    have hV : fvV (f, fs, cs) = .func (.func f) fs.toArray cs.toArray := rfl
    rw [hV] at hcell
    refine goA ?_
    refine l_w rfl (v_load rfl rfl (fun w' hw' => by rw [Nat.zero_add]; exact hcell w' hw' (by simp))) ?_
    refine goA ?_
    refine l_opg rfl (o_cuF (pre := B s) (fs := fs) (cs := cs) (vs := []) rfl hb rfl rfl rfl (hB s) (fun w1 hw1 hh1 ha1 => hc w1 hh1 ha1)) fun ⟨s', hs'⟩ => ?_
    dsimp only
    refine goA ?_
    by_cases he : t.1 s = 0
    · have hne : ((t.1 s : Int) != 0) = false := by simp [he]
      rw [hne]
      refine goA ?_
      exact x_round (k + 1, s') ⟨rfl, rfl, rfl, trivial⟩ ⟨hkn, hI2 s' ht hIk hs' he, fun x hx => hR x ⟨s', hs', by rw [if_pos he]; exact hx⟩⟩ (fun w hw => hw) (by show fv.length - (k + 1) < fv.length - k; omega)
    · have hne : ((t.1 s : Int) != 0) = true := by simp [he]
      rw [hne]
      refine goA ?_
      exact x_ct (t.1 s, s') rfl rfl rfl (hR _ ⟨s', hs', by rw [if_neg he]⟩) (List.sublist_append_left _ _) (hB s')
  · obtain rfl : k = fv.length := by omega
    have hd0 : st.drop fv.length = [] := List.drop_of_length_le (by omega)
    rw [hd0] at hR
    refine goA ?_
    exact x_ct (0, s) rfl rfl rfl (hR _ rfl) (List.sublist_append_left _ _) (hB s)
end Go.Proofs.YtplhamichcnmmaaGreatDoor

namespace Go.Eng
open Go.RowKit
theorem Ct.conv {P : Program} {f : FuncId} {args : Array Value} {w : World} {pre pre2 rest : List Item} {α α2 : Type} {val : α → Value} {φ : α → Prop} {its : α → List Item} {val2 : α2 → Value} {φ2 : α2 → Prop} {its2 : α2 → List Item} (g : α2 → α)
    (h0 : Hp w (foots pre) (pre2 ++ rest) w) (hs2 : ∀ it ∈ pre2, it.Stable none') (h : (∀ it ∈ pre2, Here it w) → pre2.Pairwise Item.Apart → Ct P f args w (foots pre2) val2 φ2 its2)
    (hv : ∀ x, φ2 x → val2 x = val (g x)) (hφ : ∀ x, φ2 x → φ (g x)) (hst : ∀ x, ∀ it ∈ its x, it.Stable none') (hout : ∀ x w', φ2 x → Hp w (foots pre) (its2 x ++ rest) w' → Hp w (foots pre) (its (g x)) w') : Ct P f args w (foots pre) val φ its := by
  have h1 := h (fun it hm => Here.of (h0.item it (List.mem_append_left _ hm)) (hs2 it hm)) (List.pairwise_append.1 h0.apart).1
  unfold Ct at h1 ⊢
  refine h1.mono ?_
  rintro e w' ⟨x, he, hx, hi⟩
  exact ⟨g x, by rw [he, hv x hx], hφ x hx, (hout x w' hx (h0.call hi fun _ _ ⟨it, hm, hk⟩ => ⟨it, hm, hk⟩)).its (.refl _) (hst _)⟩
end Go.Eng
namespace Go.Proofs.YtplhamichcnmmaaGreatDoor
open Go.RowKit Go.Eng
set_option maxRecDepth 100000
set_option maxHeartbeats 40000000
abbrev sbI (b a : Nat) : Eng.Item := pt b (.cells #[.pointer (some ⟨a, 0, none⟩)] 31 (0, 0))
abbrev mvI (b mb : Nat) : Eng.Item := pt b (.cells #[.map (some mb)] 77 (0, 0))
theorem out1_calls (s : Pg) (d : Dk) (lb : Nat) (A : PR) (bs bm : Nat) (ok : d.D.Ok) (hkl : d.D.keep.length ≤ 1000000) (hwl : d.D.wait.length + A.length ≤ 1000000) (hn : s.n ≤ 1024) (hsecs : s.g.h.secs < 65536) (hA : A.Ok s.n) (w : World)
    (hw : ∀ it ∈ [dkI d, pgI s d, mapN .i64 lb (toP A), sbI bs s.b, mvI bm lb], Here it w) (ha : [dkI d, pgI s d, mapN .i64 lb (toP A), sbI bs s.b, mvI bm lb].Pairwise Eng.Item.Apart) :
    Ct Tryz.prog 115 #[.pointer (some ⟨bs, 0, none⟩), .pointer (some ⟨bm, 0, none⟩)] w (foots [dkI d, pgI s d, mapN .i64 lb (toP A), sbI bs s.b, mvI bm lb]) (fun _ : Dk => .int .i64 ((wrsF d.D (wsP s.g.h.secs A)).1 : Nat)) (dkOf d (wrsF d.D (wsP s.g.h.secs A)).2) (fun d' => [dkI d', pgI s d', mapN .i64 lb (toP A), sbI bs s.b, mvI bm lb]) := by
  refine cu_of [_, _] _ Tryz.func115 rfl rfl hw ha ?_
  simp only [argSlots, Nat.reduceAdd]
  refine goA ?_
  refine l_opg rfl (o_cu (pre := [dkI d, pgI s d, mapN .i64 lb (toP A)]) rfl (by kernel_rfl) rfl (wrtL_stable _ _ _ _) (fun w1 hw1 hh1 ha1 => written_calls s d lb A ok hkl hwl hn hsecs hA w1 hh1 ha1)) fun ⟨d', hd'⟩ => ?_
  refine goA ?_
  refine x_ct d' rfl rfl rfl hd' (.refl _) ?_
  intro it hm
  rcases hm with _ | ⟨_, _ | ⟨_, _ | ⟨_, _ | ⟨_, _ | ⟨_, hm⟩⟩⟩⟩⟩
  · exact bundle_stable _
  · exact pgI_stable _ _
  · exact mapN_stable _ _ _ _
  · exact pt_stable _ _ _
  · exact pt_stable _ _ _
  · exact nomatch hm
def dirtyP (K : PR) (R : List Nat) : PR := (srtN R).map fun i => (i, (K.lookup i).getD [])
def kpP (K : PR) (R : List Nat) : PR := R.map fun i => (i, (K.lookup i).getD [])
theorem kp_keys (K : PR) (R : List Nat) : (kpP K R).map (·.1) = R := by simp [kpP, Function.comp_def]
theorem kp_look {K : PR} {R : List Nat} {i : Nat} (h : i ∈ R) : (kpP K R).lookup i = some ((K.lookup i).getD []) := by
  induction R with
  | nil => cases h
  | cons x R ih =>
    unfold kpP at ih ⊢
    rw [List.map_cons, List.lookup_cons]
    by_cases e : i = x
    · subst e; simp
    · rw [show (i == x) = false by simpa using e]
      exact ih ((List.mem_cons.1 h).resolve_left e)
theorem kp_rows {K : PR} {R R' : List Nat} (h : R'.Perm R) : rowsS (kpP K R') = dirtyP K R := by
  unfold rowsS dirtyP
  rw [kp_keys, srtN_perm h]
  refine List.map_congr_left fun i hi => ?_
  rw [kp_look (h.mem_iff.2 (srtN_mem.1 hi))]
  rfl
theorem kp_ins {K : PR} {k : List Nat} {i : Nat} {b : Bys} (hi : i ∉ k) (hb : K.lookup i = some b) : insG (kpP K k) i b = kpP K (k ++ [i]) := by
  unfold insG
  have hn : (kpP K k).lookup i = none := by
    cases hl : (kpP K k).lookup i with
    | none => rfl
    | some x =>
      have : i ∈ (kpP K k).map (·.1) := List.mem_map.2 ⟨(i, x), lookup_memG hl, rfl⟩
      rw [kp_keys] at this
      exact absurd this hi
  rw [hn]
  simp [kpP, hb]
end Go.Proofs.YtplhamichcnmmaaGreatDoor
