/- package pages: Open. -/
/- The plain law of the store: what Open reads back, whatever took the power. -/
/- The plain law of the log: a trim, a commit, whatever takes the power in their midst. -/
import Derived.Test.YtplhamichcnmmaaGreatDoorHc33
import Derived.Test.YtplhamichcnmmaaGreatDoorHc19
namespace Go.Proofs.YtplhamichcnmmaaGreatDoor
open Go.RowKit Go.Eng Go.Eng.Bm
set_option maxRecDepth 100000
set_option maxHeartbeats 40000000
def wsO (secs : Nat) (TS : List PR) : List (Nat × Bys) := TS.flatMap fun R => wsP secs (imgF [] R)
def opF (D : Dsk) (g : Lg) (TS : List PR) : Nat × Dsk × Lg :=
  if (wrsF D (wsO g.h.secs TS)).1 = 0 then ftF (wrsF D (wsO g.h.secs TS)).2 g else ((wrsF D (wsO g.h.secs TS)).1, (wrsF D (wsO g.h.secs TS)).2, g)
theorem wrsF_app : ∀ (l l' : List (Nat × Bys)) (D : Dsk), wrsF D (l ++ l') = if (wrsF D l).1 = 0 then wrsF (wrsF D l).2 l' else wrsF D l
  | [], l', D => by rw [List.nil_append]; rfl
  | q :: l, l', D => by
    rw [List.cons_append, wrsF, wrsF]
    by_cases h : (writeF D q.1 q.2).1 = 0
    · rw [if_pos h, if_pos h, wrsF_app l]
    · rw [if_neg h, if_neg h, if_neg h]
theorem img_ok {n : Nat} : ∀ {R A : PR}, A.Ok n → R.Ok n → (imgF A R).Ok n
  | [], _, hA, _ => hA
  | p :: R, A, hA, hR => img_ok (A := insG A p.1 p.2) (PR.Ok.ins hA (hR p (.head _)).1 (hR p (.head _)).2) fun q hq => hR q (.tail _ hq)
theorem insG_len {β : Type} (B : List (Nat × β)) (h : Nat) (s : β) : (insG B h s).length ≤ B.length + 1 := by
  unfold insG
  split
  · rw [List.length_map]; omega
  · rw [List.length_append]; exact Nat.le_refl _
theorem img_len : ∀ (R A : PR), (imgF A R).length ≤ A.length + R.length
  | [], _ => Nat.le_refl _
  | p :: R, A => by
    have h1 := img_len R (insG A p.1 p.2)
    have h2 := insG_len A p.1 p.2
    show (imgF (insG A p.1 p.2) R).length ≤ _
    rw [List.length_cons]
    omega
theorem ft_ok {D : Dsk} {g : Lg} (hD : D.Ok) (h : (ftF D g).1 = 0) : (ftF D g).2.1.Ok ∧ (ftF D g).2.1.dead = false ∧ (ftF D g).2.1.wait = [] ∧ (ftF D g).2.1.on.length = D.on.length ∧ (ftF D g).2.2 = { g with h := trimH g, at_ := otherF g.at_, used := 0, dead := false } := by
  unfold ftF at h ⊢
  by_cases e1 : (flushG D).1 = 0
  · rw [if_pos e1] at h ⊢
    simp only at h ⊢
    have h1 := flushG_ok hD
    obtain ⟨h2, h3⟩ := flush_live e1
    generalize (flushG D).2 = D1 at h h1 h2 h3 ⊢
    unfold trimG
    rw [if_pos h, h]
    unfold writeHF at h ⊢
    by_cases e2 : (writeF D1 (otherF g.at_) (hdP (trimH g))).1 = 0
    · rw [if_pos e2] at h ⊢
      obtain ⟨w1, -, -, w4, -⟩ := writeF_ok h1 _ _ e2
      obtain ⟨f1, f2⟩ := flush_live h
      exact ⟨flushG_ok w1, f1, (flush_keep h).2, by rw [f2, w4, h3], rfl⟩
    · rw [if_neg e2] at h
      exact absurd h e2
  · rw [if_neg e1] at h
    exact absurd h e1
abbrev stsV (TS : List PR) : List Value := strsV (TS.map textP)
structure Opd (s : Pg) (D : Dsk) (g : Lg) (n : Nat) (note : Bys) : Prop where
  hg : s.g = g
  hn : s.n = n
  hnote : s.note = note
  hK : s.K = [(0, curF D (2 + g.h.secs))]
  hR : s.R = []
  hC : s.C = []
  hdead : s.dead = false
theorem wsO_len {secs n : Nat} : ∀ {TS : List PR}, (∀ R ∈ TS, R.Ok n ∧ R.length ≤ 1024) → (wsO secs TS).length ≤ 1024 * TS.length
  | [], _ => Nat.zero_le _
  | R :: TS, h => by
    have h1 := wsO_len (secs := secs) (TS := TS) fun R hR => h R (.tail _ hR)
    have h2 := img_len R []
    have h3 := (h R (.head _)).2
    have h4 : (wsP secs (imgF [] R)).length = (imgF [] R).length := by rw [wsP, List.length_map, rowsS, List.length_map, srtN_len, List.length_map]
    unfold wsO at h1 ⊢
    rw [List.flatMap_cons, List.length_append, List.length_cons, h4]
    simp at h2
    omega
theorem wsO_snoc (secs : Nat) (TS : List PR) (R : PR) : wsO secs (TS ++ [R]) = wsO secs TS ++ wsP secs (imgF [] R) := by simp [wsO]
theorem pgopen_calls (d : Dk) (ok : d.D.Ok) (hlive : d.D.dead = false) (hkl : d.D.keep.length ≤ 1000000) (hwl : d.D.wait.length ≤ 10000) (h2 : 2 ≤ d.D.on.length) (h : Hd) (c : Nat) (hc : c = 0 ∨ c = 1) (hlk : lookN d.D 2 = (h, (c : Int))) (ho : h.Ok) (hs1 : 1 ≤ h.secs) (hs2 : h.secs ≤ 512)
    (hne : ∀ p ∈ readSN d.D h.secs h.secs, p.2.text.length ≤ 497 ∧ p.2.text ≠ []) (n : Nat) (note : Bys) (hnote : h.note = beN 2 n ++ note) (hn1 : 64 ≤ n) (hn2 : n ≤ 1024) (hno : note.length ≤ 40) (hroom : 2 + h.secs + n ≤ d.D.on.length)
    (TS : List PR) (hTS : openT d.D h = TS.map textP) (hTO : ∀ R ∈ TS, R.Ok n ∧ R.length ≤ 1024) (hTl : TS.length ≤ 512) (S : Nat → Bool) (hU : (opF d.D (openG d.D h c) TS).1 = 0 → curF (opF d.D (openG d.D h c) TS).2.1 (2 + h.secs) = bmB n S ∧ Canon n S ∧ S 0 = true) (w : World) (hw : ∀ it ∈ [dkI d, ctI], Here it w) (ha : [dkI d, ctI].Pairwise Eng.Item.Apart) :
    Ct Tryz.prog 11 #[.pointer (some ⟨d.b, 0, none⟩)] w (foots [dkI d, ctI]) (fun x : Dk × Pg => .tuple #[.pointer (if (opF d.D (openG d.D h c) TS).1 = 0 then some ⟨x.2.b, 0, none⟩ else none), .int .i64 ((opF d.D (openG d.D h c) TS).1 : Nat)])
      (fun x => dkOf d (opF d.D (openG d.D h c) TS).2.1 x.1 ∧ ((opF d.D (openG d.D h c) TS).1 = 0 → Opd x.2 (opF d.D (openG d.D h c) TS).2.1 (opF d.D (openG d.D h c) TS).2.2 n note))
      (fun x => if (opF d.D (openG d.D h c) TS).1 = 0 then [pgI x.2 x.1, dkI x.1, ctI] else [dkI x.1, ctI]) := by
  refine cu_of [_] _ Tryz.func11 rfl rfl hw ha ?_
  have hsecs := ho.secs
  simp only [argSlots]
  refine goA ?_
  refine l_opg rfl (o_cu (pre := [dkI d, ctI]) (m := []) rfl (by kernel_rfl) rfl (dc_stable d) (fun w1 hw1 hh1 ha1 => wopen_calls d ok hlive (by omega) h2 h c hlk ho.first hs1 (by omega) hne w1 hh1 ha1)) fun ⟨⟨bl, so⟩, _⟩ => ?_
  rw [hTS]
  dsimp only
  refine goA ?_
  refine l_op rfl (o_makemapN (q := .i64) rfl) fun ⟨kb, hkb⟩ => ?_
  refine l_op rfl (o_makemapN (q := .i64) rfl) fun ⟨db, hdb⟩ => ?_
  refine l_op rfl (o_makemapN (q := .i64) rfl) fun ⟨cb, hcb⟩ => ?_
  refine goA ?_
  obtain ⟨g0, hg0⟩ : ∃ g0, openG d.D h c = g0 := ⟨_, rfl⟩
  have hgh : g0.h = h := by rw [← hg0]; rfl
  have hgat : g0.at_ = c := by rw [← hg0]; rfl
  have hgdd : g0.dead = false := by rw [← hg0]; rfl
  have hgnx : g0.next < 18446744073709551616 := by rw [← hg0]; exact nextF_lt ho.first
  rw [hg0] at hU ⊢
  refine l_say 31 _ (.agg (pgA ⟨0, bl, kb, db, cb, g0, 0, [], [], [], [], false⟩ d)) rfl rfl ?_
  refine l_boxa rfl rfl fun b hb => ?_
  refine l_imp (m' := pgL ⟨b, bl, kb, db, cb, g0, 0, [], [], [], [], false⟩ d ++ [own 9 1 so TS.length (stsV TS), dkI d, ctI]) (fun w' hw' => by rw [List.length_map] at hw'; exact hw'.pick [0, 4, 3, 2, 1, 5, 6, 7] rfl rfl) ?_
  unfold pgL
  dsimp only
  rw [List.length_map]
  refine goA ?_
  refine l_opg rfl (o_pure rfl (by kernel_rfl) rfl (fun w1 hw1 => lgnote_calls bl d g0 w1 (Here.of (hw1.item (lgI bl d g0) (by simp)) (pt_stable _ _ _)))) fun _ => ?_
  rw [hgh, hnote]
  have htxl : (beN 2 n ++ note).length ≤ 42 := by rw [List.length_append, beN_length]; omega
  have e1 : opN 2 (beN 2 n ++ note, false) = (n, (note, false)) := opN_ok (by omega) _
  have e2 : opT note.length (note, false) = (note, ([], false)) := by have := opT_ok note []; rw [List.append_nil] at this; exact this
  obtain ⟨tx, htx⟩ : ∃ tx, beN 2 n ++ note = tx := ⟨_, rfl⟩
  rw [htx] at htxl e1 ⊢
  refine l_op rfl (o_strb rfl rfl rfl rfl) fun ⟨p1, _, _⟩ => ?_
  dsimp only
  rw [bal]
  refine goA ?_
  refine l_ctg rfl rfl (by kernel_rfl) rfl (fun w1 hw1 => Of_calls (some ⟨p1.1, 0, none⟩) tx.length p1.2 tx rfl (by omega) w1 (.inr ⟨p1.1, 0, rfl, strRow_at (hw1.item (strRow 5 tx p1.1 p1.2) (.head _)).1⟩)) fun x hx => ?_
  obtain ⟨ob, oD⟩ := x
  simp only at hx ⊢
  have hsD : (own 5 1 oD tx.length (bytesV tx)).Stable none' := own_stable _ _ _ _ _ _
  generalize own 5 1 oD tx.length (bytesV tx) = D at hx hsD
  refine goA ?_
  refine l_opg rfl (o_cu (pre := [opI ob (slA oD) (slC oD) (tx, false), D]) rfl (by kernel_rfl) rfl (by simp [opI_stable, hsD]) (fun w1 hw1 hh1 ha1 => oTakeE n (note, false) e1 hsD hx (.inr (.inl rfl)) (by simp only; omega) hh1 ha1)) fun ⟨y1, hy1⟩ => ?_
  simp only at hy1
  dsimp only
  refine goA ?_
  refine l_op rfl (ho_perm (bring3 _ _ _ _ _) (o_store1 rfl rfl rfl rfl rfl rfl (show (2 : Nat) < 8 from by decide))) fun _ => ?_
  refine l_imp (m' := [opI ob y1.1 y1.2 (note, false), D, pgC ⟨b, bl, kb, db, cb, g0, n, [], [], [], [], false⟩ d, lgI bl d g0, mapN .i64 kb (toP []), mapN .i64 db (toB []), mapN .i64 cb (toP []), own 9 1 so TS.length (stsV TS), dkI d, ctI]) (fun w' hw' => hw'.pick [1, 2, 0, 4, 5, 6, 7, 8, 9, 10] rfl rfl) ?_
  refine goA ?_
  refine l_opg rfl (o_pure rfl (by kernel_rfl) rfl (fun w1 hw1 => left_calls ob y1.1 y1.2 (note, false) w1 (Here.of (hw1.item (opI ob y1.1 y1.2 (note, false)) (.head _)) (opI_stable _ _ _ _)))) fun _ => ?_
  refine l_opg rfl (o_cu (pre := [opI ob y1.1 y1.2 (note, false), D]) rfl (by kernel_rfl) rfl (by simp [opI_stable, hsD]) (fun w1 hw1 hh1 ha1 => oTextE note ([], false) e2 hsD hy1 (by simp only; omega) hh1 ha1)) fun ⟨y2, hy2⟩ => ?_
  dsimp only
  refine goA ?_
  refine l_op rfl (ho_perm (bring2 _ _ _ _) (o_store1 rfl rfl rfl rfl rfl rfl (show (3 : Nat) < 8 from by decide))) fun _ => ?_
  refine l_imp (m' := [opI ob y2.1 y2.2 ([], false), pgC ⟨b, bl, kb, db, cb, g0, n, note, [], [], [], false⟩ d, lgI bl d g0, mapN .i64 kb (toP []), mapN .i64 db (toB []), mapN .i64 cb (toP []), own 9 1 so TS.length (stsV TS), dkI d, ctI]) (fun w' hw' => hw'.pick [1, 0, 3, 4, 5, 6, 7, 8, 9] rfl rfl) ?_
  refine goA ?_
  refine l_opg rfl (o_pure rfl (by kernel_rfl) rfl (fun w1 hw1 => end_calls ob y2.1 y2.2 ([], false) w1 (Here.of (hw1.item (opI ob y2.1 y2.2 ([], false)) (.head _)) (opI_stable _ _ _ _)))) fun _ => ?_
  rw [if_pos rfl]
  obtain ⟨s0, hs0⟩ : ∃ s0 : Pg, s0 = ⟨b, bl, kb, db, cb, g0, n, note, [], [], [], false⟩ := ⟨_, rfl⟩
  refine l_imp (m' := [pgI s0 d, dkI d, ctI, own 9 1 so TS.length (stsV TS)]) (fun w' hw' => by rw [hs0]; exact pg_close (s := ⟨b, bl, kb, db, cb, g0, n, note, [], [], [], false⟩) (m := [dkI d, ctI, own 9 1 so TS.length (stsV TS)]) (hw'.pick [1, 2, 3, 4, 5, 7, 8, 6] rfl rfl)) ?_
  have hsb : s0.b = b := by rw [hs0]
  have hsn : s0.n = n := by rw [hs0]
  have hsg : s0.g = g0 := by rw [hs0]
  have hsnote : s0.note = note := by rw [hs0]
  have hpg : ∀ {m : List Eng.Item} {w1 : World}, Hp w (foots [dkI d, ctI]) (pgI s0 d :: m) w1 → Here (pgI s0 d) w1 := fun hw1 => Here.of (hw1.item (pgI s0 d) (.head _)) (pgI_stable s0 d)
  rw [← hsb]
  refine goA ?_
  refine l_w rfl (v_load (v := .int .i64 (n : Int)) rfl rfl (fun w' hw' => pg_at (hpg hw') 2 (by rw [← hsn]; rfl))) ?_
  refine goA ?_
  refine l_w rfl (v_load (v := .int .i64 (n : Int)) rfl rfl (fun w' hw' => pg_at (hpg hw') 2 (by rw [← hsn]; rfl))) ?_
  refine goA ?_
  refine l_opg rfl (o_pure rfl (by kernel_rfl) rfl (fun w1 hw1 => pgbehind_calls s0 d (by omega) (by rw [hsg, hgh]; exact hsecs) w1 (hpg hw1))) fun _ => ?_
  rw [hsg, hgh, hsn]
  refine goA ?_
  refine l_opg rfl (o_pure rfl (by kernel_rfl) rfl (fun w1 hw1 => dlen_calls d w1 (Here.of (hw1.item (dkI d) (by simp)) (bundle_stable _)))) fun _ => ?_
  refine goA ?_
  refine l_w rfl (v_load (v := .string ⟨note.toArray⟩) rfl rfl (fun w' hw' => pg_at (hpg hw') 3 (by rw [← hsnote]; rfl))) ?_
  have hbn := bal note
  refine goA ?_
  refine l_fact (fun w hw => (own_val (hw.item (own 9 1 so TS.length (stsV TS)) (by simp)).1)) fun ⟨hsl, _⟩ => ?_
  rw [hsl]
  refine goA ?_
  have hpre : ∀ k, k ≤ TS.length → (wsO h.secs (TS.take k)).length ≤ 1024 * 512 := fun k hk => by
    have := wsO_len (secs := h.secs) (TS := TS.take k) fun R hR => hTO R (List.mem_of_mem_take hR)
    rw [List.length_take] at this
    omega
  have hstp : ∀ k (hk : k < TS.length), wsO h.secs (TS.take (k + 1)) = wsO h.secs (TS.take k) ++ wsP h.secs (imgF [] TS[k]) := fun k hk => by
    rw [List.take_succ_eq_append_getElem hk, wsO_snoc]
  have hbad : ∀ k (hk : k < TS.length), (wrsF d.D (wsO h.secs (TS.take (k + 1)))).1 ≠ 0 → wrsF d.D (wsO h.secs TS) = wrsF d.D (wsO h.secs (TS.take (k + 1))) := fun k hk he => by
    have h1 : wsO h.secs TS = wsO h.secs (TS.take (k + 1)) ++ wsO h.secs (TS.drop (k + 1)) := by
      unfold wsO
      rw [← List.flatMap_append, List.take_append_drop]
    rw [h1]
    exact wrsF_bad _ _ d.D he
  have hall : wsO h.secs (TS.take TS.length) = wsO h.secs TS := by rw [List.take_length]
  have hopF : opF d.D g0 TS = if (wrsF d.D (wsO h.secs TS)).1 = 0 then ftF (wrsF d.D (wsO h.secs TS)).2 g0 else ((wrsF d.D (wsO h.secs TS)).1, (wrsF d.D (wsO h.secs TS)).2, g0) := by rw [opF, hgh]
  refine t_for (α := Nat × Dk) (fun y => [(0, .pointer (some ⟨d.b, 0, none⟩)), (4, .pointer (some ⟨bl, 0, none⟩)), (7, .pointer (some ⟨s0.b, 0, none⟩)), (82, .slice (slA so) TS.length (slC so)), (83, .int .i64 TS.length), (84, .int .i64 y.1)]) (fun y => y.1 ≤ TS.length ∧ (wrsF d.D (wsO h.secs (TS.take y.1))).1 = 0 ∧ dkOf d (wrsF d.D (wsO h.secs (TS.take y.1))).2 y.2) (fun y => [pgI s0 y.2, dkI y.2, ctI, own 9 1 so TS.length (stsV TS)]) (fun y => TS.length - y.1) (0, d) ⟨rfl, rfl, rfl, rfl, rfl, rfl, trivial⟩ ⟨Nat.zero_le _, rfl, rfl, rfl, rfl⟩ (fun w hw => hw) fun ⟨k, d1⟩ ⟨hk, h0, hd1⟩ => ?_
  simp only at hk h0 hd1 ⊢
  by_cases hkn : k < TS.length
  · have hst := hstp k hkn
    have hbad2 := hbad k hkn
    have hpk := hpre k (by omega)
    have hpk2 := hpre (k + 1) hkn
    have hRO := hTO TS[k] (List.getElem_mem hkn)
    have hstr : (stsV TS)[k]? = some (.string ⟨(textP TS[k]).toArray⟩) := by simp [stsV, strsV, hkn]
    generalize TS[k] = R at hst hRO hstr
    obtain ⟨hkk1, hkk2⟩ := wrsF_keep (wsO h.secs (TS.take k)) d.D ok h0
    have hokd := wrsF_ok (wsO h.secs (TS.take k)) d.D ok
    have hwr : wrsF d.D (wsO h.secs (TS.take (k + 1))) = wrsF (wrsF d.D (wsO h.secs (TS.take k))).2 (wsP h.secs (imgF [] R)) := by rw [hst, wrsF_app, if_pos h0]
    generalize wrsF d.D (wsO h.secs (TS.take k)) = r at *
    obtain ⟨hd1a, hd1b, hd1c⟩ := hd1
    rw [← hd1c] at hkk1 hkk2 hokd hwr
    have hil := img_len R []
    have hio := img_ok (n := n) (A := []) (fun _ h => nomatch h) hRO.1
    rcases so with _ | ⟨sob, soc⟩
    · refine t_fact (fun w hw => (hw.item (own 9 1 none TS.length (stsV TS)) (by simp)).1.2) fun h => ?_
      exact absurd h (by omega)
    have hcell : ∀ {m : List Eng.Item} {w2 : World} {F2 : Nat → Prop} (w' : World), Hp w2 F2 m w' → own 9 1 (some (sob, soc)) TS.length (stsV TS) ∈ m → w'.cell? ⟨sob, k, none⟩ = some (.string ⟨(textP R).toArray⟩) := fun w' hw' hm => own_rd (hw'.item _ hm).1 k _ hstr
    simp only [slA, slC]
    refine goA ?_
    refine l_w rfl (v_load (v := .string ⟨(textP R).toArray⟩) rfl rfl (fun w' hw' => by rw [Nat.zero_add]; exact hcell w' hw' (by simp))) ?_
    refine goA ?_
    refine l_ctg rfl rfl (by kernel_rfl) rfl (fun w1 hw1 => images_calls s0 d1 R (by omega) (by rw [hsn]; exact hRO.1) (by omega) w1 (Here.of (hw1.item (pgI s0 d1) (by simp)) (pgI_stable _ _))) fun x hx => ?_
    refine goA ?_
    refine l_pick [2, 1, 0, 3, 4] rfl rfl ?_
    refine l_opg rfl (o_cu (pre := [dkI d1, pgI s0 d1, mapN .i64 x (toP (imgF [] R))]) rfl (by kernel_rfl) rfl (wrtL_stable _ _ _ _) (val := fun _ : Dk => .int .i64 ((wrsF d.D (wsO h.secs (TS.take (k + 1)))).1 : Nat)) (φ := dkOf d1 (wrsF d.D (wsO h.secs (TS.take (k + 1)))).2) (its := fun d' => [dkI d', pgI s0 d', mapN .i64 x (toP (imgF [] R))]) (fun w1 hw1 hh1 ha1 => by
      have hq := written_calls s0 d1 x (imgF [] R) hokd (by rw [hkk1]; exact hkl) (by rw [hkk2]; simp at hil; omega) (by omega) (by rw [hsg, hgh]; exact hsecs) (by rw [hsn]; exact hio) w1 hh1 ha1
      rw [hsg, hgh, ← hwr] at hq
      exact hq)) fun ⟨d2, hd2⟩ => ?_
    dsimp only
    have hok2 : dkOf d (wrsF d.D (wsO h.secs (TS.take (k + 1)))).2 d2 := ⟨hd2.1.trans hd1a, hd2.2.1.trans hd1b, hd2.2.2⟩
    refine goA ?_
    by_cases he : (wrsF d.D (wsO h.secs (TS.take (k + 1)))).1 = 0
    · have hne : (((wrsF d.D (wsO h.secs (TS.take (k + 1)))).1 : Int) != 0) = false := by simp [he]
      rw [hne]
      refine goA ?_
      exact x_round (k + 1, d2) ⟨rfl, rfl, rfl, rfl, rfl, rfl, trivial⟩ ⟨hkn, he, hok2⟩ (fun w hw => hw.pick [1, 0, 3, 4] rfl rfl) (by show TS.length - (k + 1) < TS.length - k; omega)
    · have hne : (((wrsF d.D (wsO h.secs (TS.take (k + 1)))).1 : Int) != 0) = true := by simp [he]
      have hop : opF d.D g0 TS = ((wrsF d.D (wsO h.secs (TS.take (k + 1)))).1, (wrsF d.D (wsO h.secs (TS.take (k + 1)))).2, g0) := by rw [hopF, hbad2 he, if_neg he]
      rw [hne]
      simp only [hop, if_neg he]
      refine goA ?_
      exact x_ct2 (d2, s0) rfl rfl rfl rfl ⟨hok2, fun h => absurd h he⟩ (.cons_cons _ (.cons _ (.cons _ (.cons_cons _ (List.nil_sublist _))))) (dc_stable d2)
  · obtain rfl : k = TS.length := by omega
    rw [hall] at h0 hd1
    rw [if_pos h0] at hopF
    have hpl := hpre TS.length (Nat.le_refl _)
    rw [hall] at hpl
    obtain ⟨hkk1, hkk2⟩ := wrsF_keep (wsO h.secs TS) d.D ok h0
    have hokd := wrsF_ok (wsO h.secs TS) d.D ok
    have hlen1 := wrsF_len (wsO h.secs TS) d.D ok h0
    generalize wrsF d.D (wsO h.secs TS) = r at *
    obtain ⟨hd1a, hd1b, hd1c⟩ := hd1
    rw [← hd1c] at hkk1 hkk2 hokd hlen1 hopF
    have hsbl : s0.bl = bl := by rw [hs0]
    have hs0C : s0.C = [] ∧ s0.K = [] ∧ s0.R = [] ∧ s0.dead = false := by rw [hs0]; exact ⟨rfl, rfl, rfl, rfl⟩
    rw [hopF] at hU
    simp only [hopF]
    rw [← hd1a, ← hsbl]
    refine goA ?_
    refine l_w rfl (v_mkb (vs := [.pointer (some ⟨d1.b, 0, none⟩)]) rfl) ?_
    refine goA ?_
    refine l_w rfl (v_mkb (vs := [.pointer (some ⟨s0.bl, 0, none⟩)]) rfl) ?_
    refine l_op rfl (o_buildslice rfl rfl rfl rfl rfl rfl) fun ⟨bq, hbq⟩ => ?_
    refine l_imp (m' := [pgI s0 d1, dkI d1, ctI, fvI bq 2 (ftV s0 d1)]) (fun w' hw' => hw'.pick [1, 2, 3, 0] rfl rfl) ?_
    refine l_opg rfl (o_cu (pre := [pgI s0 d1, dkI d1, ctI, fvI bq 2 (ftV s0 d1)]) (m := []) rfl (by kernel_rfl) rfl (by
      intro it hm
      rcases hm with _ | ⟨_, _ | ⟨_, _ | ⟨_, _ | ⟨_, hm⟩⟩⟩⟩
      · exact pgI_stable _ _
      · exact bundle_stable _
      · exact ctI_stable _
      · exact own_stable _ _ _ _ _ _
      · exact nomatch hm) (val := fun _ : Dk => .int .i64 ((ftF d1.D g0).1 : Nat)) (φ := dkOf d1 (ftF d1.D g0).2.1) (its := fun d' => [pgI { s0 with g := (ftF d1.D g0).2.2 } d', dkI d', ctI]) (fun w1 hw1 hh1 ha1 => by
      have hq := ft_calls s0 d1 bq hokd (by rw [hkk1]; exact hkl) (by rw [hkk2]; omega) (by rw [hsg, hgh]; exact ho) (by rw [hsg]; exact hgnx) (by rw [hsg, hgat]; exact hc) (by rw [hsg]; exact hgdd) w1 hh1 ha1
      rw [hsg] at hq
      exact hq)) fun ⟨d3, hd3⟩ => ?_
    have hok3 : dkOf d (ftF d1.D g0).2.1 d3 := ⟨hd3.1.trans hd1a, hd3.2.1.trans hd1b, hd3.2.2⟩
    have hfo := ft_ok (g := g0) hokd
    dsimp only
    refine goA ?_
    by_cases he : (ftF d1.D g0).1 = 0
    · have hne : (((ftF d1.D g0).1 : Int) != 0) = false := by simp [he]
      obtain ⟨f1, f2, f3, f4, f5⟩ := hfo he
      obtain ⟨hu1, hu2, hu3⟩ := hU he
      rw [hne]
      simp only [if_pos he]
      rw [he]
      generalize ftF d1.D g0 = r3 at *
      obtain ⟨e3, D3, g3⟩ := r3
      simp only at f1 f2 f3 f4 f5 hu1 hok3 ⊢
      obtain ⟨s1, hs1⟩ : ∃ s1 : Pg, s1 = { s0 with g := g3 } := ⟨_, rfl⟩
      refine t_imp (m' := [pgI s1 d3, dkI d3, ctI]) (fun w' hw' => by rw [hs1]; exact hw') ?_
      have hb1 : s1.b = s0.b := by rw [hs1]
      have hC1 : s1.C = [] := by rw [hs1]; exact hs0C.1
      have hK1 : s1.K = [] := by rw [hs1]; exact hs0C.2.1
      have hR1 : s1.R = [] := by rw [hs1]; exact hs0C.2.2.1
      have hde1 : s1.dead = false := by rw [hs1]; exact hs0C.2.2.2
      have hn1' : s1.n = n := by rw [hs1]; exact hsn
      have hno1 : s1.note = note := by rw [hs1]; exact hsnote
      have hg1 : s1.g = g3 := by rw [hs1]
      have hsc1 : s1.g.h.secs = h.secs := by rw [hg1, f5]; show g0.h.secs = h.secs; rw [hgh]
      have hD3 := hok3.2.2
      have hpb : pageB s1 d3.D 0 = bmB s1.n S := by
        unfold pageB
        rw [hC1, hK1, hsc1, hD3, hn1']
        exact hu1
      have hps : pageS s1 d3.D 0 = { s1 with K := [(0, curF D3 (2 + g3.h.secs))] } := by
        unfold pageS
        rw [hC1, hK1, hg1, hD3]
        rfl
      rw [← hb1]
      refine goA ?_
      refine l_opg rfl (o_cu (pre := [pgI s1 d3, dkI d3]) rfl (by kernel_rfl) rfl (pd_stable s1 d3) (fun w1 hw1 hh1 ha1 => pgused_calls s1 d3 (by rw [hD3]; exact f1) (by rw [hD3]; exact f2) (by rw [hD3, f3]; decide) hde1 ⟨by omega, by rw [hsc1]; exact hsecs, by rw [hsc1, hD3, f4, hlen1]; omega, (by rw [hC1]; exact fun _ h => (nomatch h)), (by rw [hK1]; exact fun _ h => (nomatch h))⟩ (by omega) S hpb (by rw [hn1']; exact hu2) hu3 w1 hh1 ha1)) fun ⟨_, _⟩ => ?_
      rw [hps]
      refine goA ?_
      refine l_alloca rfl rfl fun b15 hb15 => ?_
      refine l_op rfl (o_storea (cs' := mapC s1.n S) rfl rfl rfl (by rw [mapC_size]; rfl) (mapC_one _ _) (by rw [mapC_size]; rfl)) fun _ => ?_
      refine goA ?_
      exact x_ct2 (d3, { s1 with K := [(0, curF D3 (2 + g3.h.secs))] }) rfl rfl rfl rfl ⟨hok3, fun _ => ⟨hg1, hn1', hno1, rfl, hR1, hC1, hde1⟩⟩ (.cons _ (.refl _)) (pdc_stable _ _)
    · have hne : (((ftF d1.D g0).1 : Int) != 0) = true := by simp [he]
      rw [hne]
      simp only [if_neg he]
      refine goA ?_
      exact x_ct2 (d3, s0) rfl rfl rfl rfl ⟨hok3, fun h => absurd h he⟩ (.cons _ (.refl _)) (dc_stable d3)
end Go.Proofs.YtplhamichcnmmaaGreatDoor

namespace Go.Proofs.YtplhamichcnmmaaGreatDoor
set_option maxRecDepth 100000
theorem setAll_fun (f : Nat → Bys) : ∀ (ws : List (Nat × Bys)) (on : List Bys) (j : Nat), j < on.length → (∀ p ∈ ws, p.2 = f p.1) → (setAll on ws)[j]? = if j ∈ ws.map (·.1) then some (f j) else on[j]?
  | [], _, _, _, _ => by simp [setAll]
  | p :: l, on, j, hj, h => by
    rw [setAll, setAll_fun f l (on.set p.1 p.2) j (by rw [List.length_set]; exact hj) fun q hq => h q (.tail _ hq)]
    by_cases h1 : j ∈ l.map (·.1)
    · rw [if_pos h1, if_pos (by rw [List.map_cons]; exact .tail _ h1)]
    · rw [if_neg h1]
      by_cases h2 : p.1 = j
      · rw [if_pos (by rw [List.map_cons, h2]; exact .head _), ← h2, List.getElem?_set_self (by rw [h2]; exact hj), h p (.head _)]
      · rw [List.getElem?_set_ne h2, if_neg (by rw [List.map_cons, List.mem_cons]; rintro (h3 | h3); exact h2 h3.symm; exact h1 h3)]
def lastT (TS : List PR) (i : Nat) : Option Bys := TS.foldl (fun acc R => ((imgF [] R).lookup i).or acc) none
theorem lastT_snoc (TS : List PR) (R : PR) (i : Nat) : lastT (TS ++ [R]) i = ((imgF [] R).lookup i).or (lastT TS i) := by simp [lastT]
theorem rowsS_mem {A : PR} {p : Nat × Bys} (h : p ∈ rowsS A) : A.lookup p.1 = some p.2 := by
  obtain ⟨i, hi, rfl⟩ := List.mem_map.1 h
  obtain ⟨b, hb⟩ := keys_look (srtN_mem.1 hi)
  simp only [hb, Option.getD_some]
theorem rowsS_keys {A : PR} {i : Nat} : i ∈ (rowsS A).map (·.1) ↔ (A.lookup i).isSome = true := by
  rw [lookup_mem_keys, rowsS, List.map_map]
  have : ((fun x : Nat × Bys => x.1) ∘ fun i => (i, (A.lookup i).getD [])) = id := rfl
  rw [this, List.map_id]
  exact srtN_mem
theorem wsP_at {secs : Nat} {A : PR} {on : List Bys} {i : Nat} (hi : 2 + secs + i < on.length) : (setAll on (wsP secs A))[2 + secs + i]? = (A.lookup i).or on[2 + secs + i]? := by
  rw [setAll_fun (fun j => (A.lookup (j - (2 + secs))).getD []) _ _ _ hi fun p hp => by
    obtain ⟨q, hq, rfl⟩ := List.mem_map.1 hp
    show q.2 = (A.lookup (2 + secs + q.1 - (2 + secs))).getD []
    rw [show 2 + secs + q.1 - (2 + secs) = q.1 by omega, rowsS_mem hq]
    rfl]
  have hk : (2 + secs + i ∈ (wsP secs A).map (·.1)) ↔ (A.lookup i).isSome = true := by
    rw [← rowsS_keys, wsP, List.map_map]
    constructor
    · intro h
      obtain ⟨q, hq, he⟩ := List.mem_map.1 h
      have he : 2 + secs + q.1 = 2 + secs + i := he
      exact List.mem_map.2 ⟨q, hq, by omega⟩
    · intro h
      obtain ⟨q, hq, he⟩ := List.mem_map.1 h
      exact List.mem_map.2 ⟨q, hq, by show 2 + secs + q.1 = _; rw [he]⟩
  rw [show 2 + secs + i - (2 + secs) = i by omega]
  cases hl : A.lookup i with
  | none => rw [if_neg (fun h => by have := hk.1 h; rw [hl] at this; cases this)]; rfl
  | some b => rw [if_pos (hk.2 (by rw [hl]; rfl))]; rfl
theorem setAll_append : ∀ (a b : List (Nat × Bys)) (on : List Bys), setAll on (a ++ b) = setAll (setAll on a) b
  | [], _, _ => rfl
  | p :: a, b, on => setAll_append a b _
theorem wsO_at {secs : Nat} {on : List Bys} {i : Nat} (hi : 2 + secs + i < on.length) (TS : List PR) : (setAll on (wsO secs TS))[2 + secs + i]? = (lastT TS i).or on[2 + secs + i]? := by
  induction TS using snocI with
  | h0 => rfl
  | hs TS R ih =>
    rw [wsO_snoc, setAll_append, wsP_at (by rw [setAll_len]; exact hi), ih, lastT_snoc, Option.or_assoc]
theorem wsO_mem {secs : Nat} : ∀ {TS : List PR} {p : Nat × Bys}, p ∈ wsO secs TS → ∃ i, p.1 = 2 + secs + i ∧ (lastT TS i).isSome = true ∧ ∃ R ∈ TS, (imgF [] R).lookup i = some p.2 := fun {TS} => by
  induction TS using snocI with
  | h0 => intro p h; cases h
  | hs TS R ih =>
    intro p h
    rw [wsO_snoc] at h
    rcases List.mem_append.1 h with h | h
    · obtain ⟨i, h1, h2, R', h3, h4⟩ := ih h
      refine ⟨i, h1, ?_, R', List.mem_append_left _ h3, h4⟩
      rw [lastT_snoc]
      cases (imgF [] R).lookup i with
      | none => exact h2
      | some b => rfl
    · obtain ⟨q, hq, rfl⟩ := List.mem_map.1 h
      have := rowsS_mem hq
      refine ⟨q.1, rfl, ?_, R, List.mem_append_right _ (.head _), this⟩
      rw [lastT_snoc, this]
      rfl
/-! ### What the log's sectors tell: they and nothing else -/
theorem readSN_ext {D D' : Dsk} {n : Nat} : ∀ (i : Nat), (∀ j, j < i → curF D (2 + j) = curF D' (2 + j)) → readSN D n i = readSN D' n i
  | 0, _ => rfl
  | i + 1, h => by
    rw [readSN, readSN, h i (by omega), readSN_ext i fun j hj => h j (by omega)]
theorem lookN_is {D : Dsk} {h : Hd} {c : Nat} (hc : c = 0 ∨ c = 1) (h1 : hdOk (curF D c) = true) (h2 : hdT (curF D c) = h) (h3 : hdOk (curF D (1 - c)) = true → (hdT (curF D (1 - c))).gen < h.gen) : lookN D 2 = (h, (c : Int)) := by
  unfold lookN lookN lookN
  rcases hc with rfl | rfl
  · have e1 : lookF (curF D 0) (0 : Nat) (noHd, -1) = (h, 0) := by
      unfold lookF
      rw [h1, h2]
      rfl
    rw [show ((0 : Nat) : Int) = 0 from rfl] at *
    unfold lookF at e1 ⊢
    rw [e1]
    by_cases h4 : hdOk (curF D 1) = true
    · have : (hdT (curF D 1)).gen < h.gen := h3 h4
      rw [h4]
      simp
      omega
    · simp [h4]
  · have h3' : hdOk (curF D 0) = true → (hdT (curF D 0)).gen < h.gen := h3
    by_cases h4 : hdOk (curF D 0) = true
    · have := h3' h4
      unfold lookF
      simp [h4, h1, h2, this]
    · unfold lookF
      simp [h4, h1, h2]
end Go.Proofs.YtplhamichcnmmaaGreatDoor

namespace Go.Proofs.YtplhamichcnmmaaGreatDoor
set_option maxRecDepth 100000
structure LogR (D : Dsk) (h : Hd) (c : Nat) (tx : List Bys) (hi : Nat) : Prop where
  c01 : c = 0 ∨ c = 1
  hok : h.Ok
  secs : 1 ≤ h.secs
  head : D.on[c]? = some (hdP h)
  other : hdOk (D.on.getD (1 - c) []) = true → (hdT (D.on.getD (1 - c) [])).gen < h.gen
  sheets : ∀ i, i < h.secs → shtAt D h.secs i = true → (shtT (curF D (2 + i))).seq < hi ∧ (shtT (curF D (2 + i))).text ≠ []
  read : openT D h = tx
  first : h.first ≤ hi
structure LogI (D : Dsk) (g : Lg) (tx : List Bys) : Prop where
  c01 : g.at_ = 0 ∨ g.at_ = 1
  hok : g.h.Ok
  secs : 1 ≤ g.h.secs
  head : D.on[g.at_]? = some (hdP g.h)
  other : hdOk (D.on.getD (1 - g.at_) []) = true → (hdT (D.on.getD (1 - g.at_) [])).gen < g.h.gen
  sheets : ∀ i, i < g.h.secs → shtAt D g.h.secs i = true → (shtT (curF D (2 + i))).seq < g.next ∧ (shtT (curF D (2 + i))).text ≠ []
  has : HasT (readSN D g.h.secs g.h.secs) g.h.first tx
  next : g.next = endF g.h.first tx
  used : g.h.first + g.used = g.next
  usedle : g.used ≤ g.h.secs
  dead : g.dead = false
theorem Dsk.cur {D : Dsk} (h : D.wait = []) {i : Nat} {s : Bys} (hs : D.on[i]? = some s) : curF D i = s := by
  rw [cur_rest h, List.getD_eq_getElem?_getD, hs]; rfl
theorem LogR.look {D : Dsk} {h : Hd} {c : Nat} {tx : List Bys} {hi : Nat} (hw : D.wait = []) (L : LogR D h c tx hi) : lookN D 2 = (h, (c : Int)) := by
  obtain ⟨h1, h2⟩ := hd_ok L.hok
  have hc := Dsk.cur hw L.head
  refine lookN_is L.c01 (by rw [hc]; exact h1) (by rw [hc]; exact h2) fun h3 => ?_
  rw [cur_rest hw] at h3 ⊢
  exact L.other h3
theorem seq_none {D : Dsk} {n q : Nat} (hn : 0 < n) (h : ∀ i, i < n → shtAt D n i = true → (shtT (curF D (2 + i))).seq < q) (k : Nat) (hk : q ≤ k) : (readSN D n n).lookup k = none := by
  refine read_none fun hs he => ?_
  have := h (k % n) (Nat.mod_lt _ hn) hs
  rw [show 2 + k % n = placeF k n from rfl, he] at this
  omega
theorem LogI.rec' {D : Dsk} {g : Lg} {tx : List Bys} (L : LogI D g tx) (hn : g.next < 18446744073709551616) : LogR D g.h g.at_ tx g.next where
  c01 := L.c01
  hok := L.hok
  secs := L.secs
  head := L.head
  other := L.other
  sheets := L.sheets
  read := by
    refine texts_read (by rw [← L.next]; exact hn) L.has (stop_none ?_)
    rw [← L.next]
    exact seq_none L.secs (fun i hi hs => (L.sheets i hi hs).1) _ (Nat.le_refl _)
  first := by rw [L.next]; exact endF_le _ _
def SameLog (D D' : Dsk) (n : Nat) : Prop := ∀ i, i < n → curF D (2 + i) = curF D' (2 + i)
theorem SameLog.read {D D' : Dsk} {n : Nat} (h : SameLog D D' n) : readSN D n n = readSN D' n n := readSN_ext n h
theorem SameLog.at_ {D D' : Dsk} {n i : Nat} (h : SameLog D D' n) (hi : i < n) : shtAt D n i = shtAt D' n i := by unfold shtAt; rw [h i hi]
theorem LogR.ext {D D' : Dsk} {h : Hd} {c : Nat} {tx : List Bys} {hi : Nat} (L : LogR D h c tx hi) (h2 : ∀ i, i < 2 → D.on[i]? = D'.on[i]?) (hs : SameLog D D' h.secs) : LogR D' h c tx hi where
  c01 := L.c01
  hok := L.hok
  secs := L.secs
  head := by rw [← h2 c (by have := L.c01; omega)]; exact L.head
  other := by
    have e : D'.on.getD (1 - c) [] = D.on.getD (1 - c) [] := by rw [List.getD_eq_getElem?_getD, List.getD_eq_getElem?_getD, h2 (1 - c) (by omega)]
    rw [e]; exact L.other
  sheets := fun i hi h3 => by
    rw [← hs i hi]
    exact L.sheets i hi (by rw [hs.at_ hi]; exact h3)
  read := by
    have := L.read
    unfold openT at this ⊢
    rw [← hs.read]; exact this
  first := L.first
theorem LogI.ext {D D' : Dsk} {g : Lg} {tx : List Bys} (L : LogI D g tx) (h2 : ∀ i, i < 2 → D.on[i]? = D'.on[i]?) (hs : SameLog D D' g.h.secs) : LogI D' g tx where
  c01 := L.c01
  hok := L.hok
  secs := L.secs
  head := by rw [← h2 _ (by have := L.c01; omega)]; exact L.head
  other := by
    have e : D'.on.getD (1 - g.at_) [] = D.on.getD (1 - g.at_) [] := by rw [List.getD_eq_getElem?_getD, List.getD_eq_getElem?_getD, h2 (1 - g.at_) (by omega)]
    rw [e]; exact L.other
  sheets := fun i hi h3 => by
    rw [← hs i hi]
    exact L.sheets i hi (by rw [hs.at_ hi]; exact h3)
  has := by rw [← hs.read]; exact L.has
  next := L.next
  used := L.used
  usedle := L.usedle
  dead := L.dead
theorem other01 {c : Nat} (h : c = 0 ∨ c = 1) : otherF (c : Int) = 1 - c ∧ (1 - c = 0 ∨ 1 - c = 1) ∧ 1 - (1 - c) = c ∧ 1 - c ≠ c := by
  rcases h with rfl | rfl
  · exact ⟨rfl, .inr rfl, rfl, by decide⟩
  · exact ⟨rfl, .inl rfl, rfl, by decide⟩
theorem trim_new {D D' : Dsk} {g : Lg} {tx : List Bys} {hi : Nat} (hw : D.wait = []) (hw' : D'.wait = []) (L : LogR D g.h g.at_ tx hi) (hg1 : g.h.gen + 1 < 18446744073709551616) (hq : g.next < 18446744073709551616) (hsq : ∀ i, i < g.h.secs → shtAt D g.h.secs i = true → (shtT (curF D (2 + i))).seq < g.next)
    (hnew : D'.on[1 - g.at_]? = some (hdP (trimH g))) (hold : D'.on[g.at_]? = D.on[g.at_]?) (hs : SameLog D D' g.h.secs) :
    LogI D' { g with h := trimH g, at_ := otherF g.at_, used := 0, dead := false } [] := by
  obtain ⟨o1, o2, o3, o4⟩ := other01 L.c01
  have hgen : (trimH g).gen = g.h.gen + 1 := Nat.mod_eq_of_lt hg1
  obtain ⟨k1, k2⟩ := hd_ok L.hok
  refine ⟨by rw [o1]; exact o2, ⟨Nat.mod_lt _ (by decide), hq, L.hok.secs, L.hok.note⟩, L.secs, by rw [o1]; exact hnew, ?_, fun i hi h3 => ?_, trivial, rfl, rfl, Nat.zero_le _, rfl⟩
  · show hdOk (D'.on.getD (1 - otherF g.at_) []) = true → _
    rw [o1, o3]
    intro _
    rw [List.getD_eq_getElem?_getD, hold, L.head]
    show (hdT (hdP g.h)).gen < (trimH g).gen
    rw [k2, hgen]
    exact Nat.lt_succ_self _
  · have h3' : shtAt D g.h.secs i = true := by rw [hs.at_ hi]; exact h3
    show (shtT (curF D' (2 + i))).seq < g.next ∧ _
    rw [← hs i hi]
    exact ⟨hsq i hi h3', (L.sheets i hi h3').2⟩
end Go.Proofs.YtplhamichcnmmaaGreatDoor
