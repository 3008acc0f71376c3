/- package pages: Format. -/
/- package pages: the end of Open, a flush and a trim. -/
import Derived.Test.YtplhamichcnmmaaGreatDoorHc32
namespace Go.Proofs.YtplhamichcnmmaaGreatDoor
open Go.RowKit Go.Eng Go.Eng.Bm
set_option maxRecDepth 100000
set_option maxHeartbeats 40000000
def noU : Nat → Bool := fun _ => false
def bm0 (n : Nat) : Bys := bmB n (upd noU 0 true)
def wsFm (log n : Nat) : List (Nat × Bys) := (List.range n).map fun i => (2 + log + i, if i = 0 then bm0 n else zeroB)
def fmtF (D : Dsk) (log n : Nat) (note : Bys) : Nat × Dsk :=
  if (batF D (wsFm log n)).1 = 0 then writeHF (batF D (wsFm log n)).2 (otherF (lookN (batF D (wsFm log n)).2 2).2) (newHd (batF D (wsFm log n)).2 log (beN 2 n ++ note)) else batF D (wsFm log n)
theorem flush_live {D : Dsk} (h : (flushG D).1 = 0) : (flushG D).2.dead = false ∧ (flushG D).2.on.length = D.on.length := by
  unfold flushG at h ⊢
  split at h
  · cases h
  · rename_i hd
    rw [if_neg hd]
    by_cases ha : (actF D).1 = 0
    · rw [if_pos ha]
      obtain ⟨h1, h2, h3, -⟩ := act_wait ha
      refine ⟨?_, ?_⟩
      · show (actF D).2.dead = false
        rw [h3]; simpa using hd
      · show (appN (actF D).2.on (actF D).2.wait _ _).length = _
        rw [appN_len, h2]
    · rw [if_neg ha] at h
      exact absurd h ha
theorem wrsF_len : ∀ (l : List (Nat × Bys)) (D : Dsk), D.Ok → (wrsF D l).1 = 0 → (wrsF D l).2.on.length = D.on.length
  | [], _, _, _ => rfl
  | q :: l, D, h, h0 => by
    rw [wrsF] at h0 ⊢
    by_cases h' : (writeF D q.1 q.2).1 = 0
    · rw [if_pos h'] at h0 ⊢
      obtain ⟨h1, -, -, h4, -⟩ := writeF_ok h q.1 q.2 h'
      rw [wrsF_len l _ h1 h0, h4]
    · rw [if_neg h'] at h0
      exact absurd h0 h'
theorem pgformat_calls (d : Dk) (ok : d.D.Ok) (hlive : d.D.dead = false) (hkl : d.D.keep.length ≤ 1000000) (hwl : d.D.wait.length ≤ 10000) (log n : Nat) (note : Bys) (hl1 : 96 ≤ log) (hl2 : log ≤ 512) (hn1 : 64 ≤ n) (hn2 : n ≤ 1024) (hno : note.length ≤ 40) (hroom : 2 + log + n ≤ d.D.on.length) (w : World) (hw : ∀ it ∈ [dkI d, ctI], Here it w) (ha : [dkI d, ctI].Pairwise Eng.Item.Apart) :
    Ct Tryz.prog 14 #[.pointer (some ⟨d.b, 0, none⟩), .int .i64 log, .int .i64 n, .string ⟨note.toArray⟩] w (foots [dkI d, ctI]) (fun _ : Dk => .int .i64 ((fmtF d.D log n note).1 : Nat)) (dkOf d (fmtF d.D log n note).2) (fun d' => [dkI d', ctI]) := by
  refine cu_of [_, _, _, _] _ Tryz.func14 rfl rfl hw ha ?_
  have hbl := bal note
  have hmany := ok.many
  simp only [argSlots, Nat.reduceAdd]
  refine goA ?_
  refine l_opg rfl (o_pure rfl (by kernel_rfl) rfl (fun w1 _ => mnew_ok n (by omega) (by omega) w1)) fun _ => ?_
  refine goA ?_
  refine l_alloca rfl rfl fun b9 hb9 => ?_
  refine l_op rfl (o_storea (cs' := mapC n noS) rfl rfl rfl (by rw [mapC_size]; rfl) (mapC_one _ _) (by rw [mapC_size]; rfl)) fun _ => ?_
  refine goA ?_
  refine l_opg rfl (o_pure rfl (by kernel_rfl) rfl (fun w1 hw1 => sector_calls log n (by omega) (by omega) w1)) fun _ => ?_
  refine goA ?_
  refine l_opg rfl (o_pure rfl (by kernel_rfl) rfl (fun w1 hw1 => dlen_calls d w1 (Here.of (hw1.item (dkI d) (by simp)) (bundle_stable _)))) fun _ => ?_
  refine goA ?_
  refine l_opg rfl (o_pure rfl (by kernel_rfl) rfl (fun w1 _ => mset_calls n noU 0 true (by omega) w1)) fun _ => ?_
  rw [show setS n noU 0 true = upd noU 0 true from setS_nat noU true (k := 0) (by omega)]
  refine l_ctg rfl rfl (by kernel_rfl) rfl (fun w1 hw1 => mbytes_calls n (upd noU 0 true) (by omega) w1) fun x hx => ?_
  rw [bmB_cells]
  refine goA ?_
  have hwsl : (wsFm log n).length = n := by rw [wsFm, List.length_map, List.length_range]
  have hwsk : ∀ k, k < n → (wsFm log n).take (k + 1) = (wsFm log n).take k ++ [(2 + log + k, if k = 0 then bm0 n else zeroB)] := fun k hk => by
    rw [List.take_add_one, wsFm, List.getElem?_map, List.getElem?_range hk]
    rfl
  have hokk : ∀ k, (wrsF d.D ((wsFm log n).take k)).2.Ok := fun k => wrsF_ok _ _ ok
  have hkeepk : ∀ k, k ≤ n → (wrsF d.D ((wsFm log n).take k)).1 = 0 → (wrsF d.D ((wsFm log n).take k)).2.keep = d.D.keep ∧ (wrsF d.D ((wsFm log n).take k)).2.wait.length = d.D.wait.length + k := fun k hk h0 => by
    have := wrsF_keep ((wsFm log n).take k) d.D ok h0
    rw [List.length_take, hwsl, Nat.min_eq_left hk] at this
    exact this
  have hbad : ∀ k, (wrsF d.D ((wsFm log n).take k)).1 ≠ 0 → wrsF d.D (wsFm log n) = wrsF d.D ((wsFm log n).take k) := fun k hk => by
    have h1 := wrsF_bad ((wsFm log n).take k) ((wsFm log n).drop k) d.D hk
    rw [List.take_append_drop] at h1
    exact h1
  have hall : wrsF d.D ((wsFm log n).take n) = wrsF d.D (wsFm log n) := by rw [List.take_of_length_le (by omega)]
  have hcl : ∀ k : Nat, (if k = 0 then bm0 n else zeroB).length = 512 := fun k => by
    split
    · exact bmB_len _ _
    · simp [zeroB]
  have hz : (bytesV zeroB).toArray = Array.replicate 512 (.int .u8 0) := by
    unfold bytesV zeroB
    rw [List.map_replicate, List.toArray_replicate]
    rfl
  refine t_for (α := Nat × Dk × Nat) (fun y => [(0, .pointer (some ⟨d.b, 0, none⟩)), (1, .int .i64 (log : Int)), (2, .int .i64 (n : Int)), (3, .string ⟨note.toArray⟩), (56, .int .i64 n), (57, .int .i64 y.1), (11, .slice (some ⟨y.2.2, 0, none⟩) 512 512)]) (fun y => y.1 ≤ n ∧ (wrsF d.D ((wsFm log n).take y.1)).1 = 0 ∧ dkOf d (wrsF d.D ((wsFm log n).take y.1)).2 y.2.1) (fun y => [dkI y.2.1, pt y.2.2 (.cells (bytesV (if y.1 = 0 then bm0 n else zeroB)).toArray 5 (0, 0)), ctI]) (fun y => n - y.1) (0, d, x) ⟨rfl, rfl, rfl, rfl, rfl, rfl, rfl, trivial⟩ ⟨Nat.zero_le _, rfl, rfl, rfl, rfl⟩ (fun w hw => by exact hw.pick [2, 0, 3] rfl rfl) fun ⟨k, d1, xb⟩ ⟨hk, h0, hd1⟩ => ?_
  simp only at hk h0 hd1 ⊢
  by_cases hkn : k < n
  · have hst : wrsF d.D ((wsFm log n).take (k + 1)) = writeF (wrsF d.D ((wsFm log n).take k)).2 (2 + log + k) (if k = 0 then bm0 n else zeroB) := by
      rw [hwsk k hkn, wrsF_snoc, if_pos h0]
    obtain ⟨hkp, hwt⟩ := hkeepk k (by omega) h0
    have hokd := hokk k
    have hbad2 := hbad (k + 1)
    generalize wrsF d.D ((wsFm log n).take k) = r at *
    obtain ⟨hd1a, hd1b, hd1c⟩ := hd1
    rw [← hd1c] at hkp hwt hokd hst
    have hcur := hcl k
    generalize (if k = 0 then bm0 n else zeroB) = cur at hst hcur ⊢
    refine goA ?_
    refine l_opg rfl (o_pure rfl (by kernel_rfl) rfl (fun w1 hw1 => sector_calls log k (by omega) (by omega) w1)) fun _ => ?_
    refine goA ?_
    rw [← hd1a]
    refine l_opg rfl (o_cu (pre := [dkI d1]) rfl (by kernel_rfl) rfl (by intro it hm; rcases hm with _ | ⟨_, hm⟩ <;> first | exact bundle_stable _ | exact (nomatch hm)) (fun w1 hw1 hh1 ha1 => dwriteE d1 hokd (by rw [hkp]; exact hkl) (by rw [hwt]; omega) (2 + log + k) (by omega) cur 512 hcur (some ⟨xb, 0, none⟩) 512 (by decide) w1 hh1 (fun w2 hw2 => .inr ⟨xb, 0, rfl, rangeAt_pt (hw1.still (y := pt xb (.cells (bytesV cur).toArray 5 (0, 0))) (.head _) (pt_stable _ _ _) hw2)⟩))) fun ⟨d2, hd2⟩ => ?_
    dsimp only
    rw [← hst] at hd2 ⊢
    have hok2 : dkOf d (wrsF d.D ((wsFm log n).take (k + 1))).2 d2 := ⟨hd2.1.trans hd1a, hd2.2.1.trans hd1b, hd2.2.2⟩
    refine goA ?_
    by_cases he : (wrsF d.D ((wsFm log n).take (k + 1))).1 = 0
    · have hne : (((wrsF d.D ((wsFm log n).take (k + 1))).1 : Int) != 0) = false := by simp [he]
      rw [hne]
      refine goA ?_
      refine l_make rfl rfl rfl rfl rfl rfl (by decide) (by decide) fun c _ => ?_
      refine goA ?_
      exact x_round (k + 1, d2, c) ⟨by rw [hd1a]; rfl, rfl, rfl, rfl, rfl, rfl, rfl, trivial⟩ ⟨hkn, he, hok2⟩ (fun w hw => by show Hp _ _ [dkI d2, pt c (.cells (bytesV zeroB).toArray 5 (0, 0)), ctI] w; rw [hz]; exact hw.pick [1, 0, 3] rfl rfl) (by show n - (k + 1) < n - k; omega)
    · have hne : (((wrsF d.D ((wsFm log n).take (k + 1))).1 : Int) != 0) = true := by simp [he]
      have hfm : fmtF d.D log n note = wrsF d.D ((wsFm log n).take (k + 1)) := by
        have hb : batF d.D (wsFm log n) = wrsF d.D ((wsFm log n).take (k + 1)) := by rw [batF, hbad2 he, if_neg he]
        rw [fmtF, hb, if_neg he]
      rw [hne, hfm]
      refine goA ?_
      exact x_ct d2 rfl rfl rfl hok2 (.cons_cons _ (.cons _ (.refl _))) (dc_stable d2)
  · obtain rfl : k = n := by omega
    rw [hall] at h0 hd1
    have hkk := hkeepk k (Nat.le_refl _) (by rw [hall]; exact h0)
    rw [hall] at hkk
    have hokd := wrsF_ok (wsFm log k) d.D ok
    have hlen1 := wrsF_len (wsFm log k) d.D ok h0
    have hbt : batF d.D (wsFm log k) = flushG (wrsF d.D (wsFm log k)).2 := by rw [batF, if_pos h0]
    unfold fmtF
    rw [hbt]
    generalize wrsF d.D (wsFm log k) = r at *
    obtain ⟨hd1a, hd1b, hd1c⟩ := hd1
    rw [← hd1c] at hkk hokd hlen1 ⊢
    refine goA ?_
    rw [← hd1a]
    refine l_opg rfl (o_cu (pre := [dkI d1]) rfl (by kernel_rfl) rfl (by intro it hm; rcases hm with _ | ⟨_, hm⟩ <;> first | exact bundle_stable _ | exact (nomatch hm)) (fun w1 hw1 hh1 ha1 => flush_calls d1 hokd (by rw [hkk.1]; exact hkl) (by rw [hkk.2]; omega) w1 hh1)) fun ⟨d2, hd2⟩ => ?_
    dsimp only
    have hok2 : dkOf d (flushG d1.D).2 d2 := ⟨hd2.1.trans hd1a, hd2.2.1.trans hd1b, hd2.2.2⟩
    have hfo := flushG_ok hokd
    have hfk := flush_keep (D := d1.D)
    have hfl := flush_live (D := d1.D)
    generalize flushG d1.D = r2 at *
    refine goA ?_
    by_cases he : r2.1 = 0
    · have hne : ((r2.1 : Int) != 0) = false := by simp [he]
      obtain ⟨hk1, hk2⟩ := hfk he
      obtain ⟨hl1', hl2'⟩ := hfl he
      rw [hne]
      simp only [if_pos he]
      rw [← hok2.2.2] at hfo hk1 hk2 hl1' hl2' ⊢
      refine goA ?_
      refine l_ctg rfl rfl (by kernel_rfl) rfl (fun w1 hw1 => new_calls w1) fun x hx => ?_
      refine goA ?_
      refine l_opg rfl (o_cu (pre := pks x none []) rfl (by kernel_rfl) rfl (by simp [pt_stable, own_stable]) (fun w1 hw1 hh1 ha1 => put_calls x none [] 2 k (.inr (.inl rfl)) (by omega) (by decide) w1 hh1 ha1)) fun ⟨o1, _⟩ => ?_
      rw [List.nil_append]
      refine goA ?_
      refine l_opg rfl (o_cu (pre := pks x o1 (beN 2 k)) rfl (by kernel_rfl) rfl (by simp [pt_stable, own_stable]) (fun w1 hw1 hh1 ha1 => text_calls x o1 (beN 2 k) ⟨note.toArray⟩ (by rw [beN_length, hbl]; omega) w1 hh1 ha1)) fun ⟨o2, _⟩ => ?_
      refine l_imp (m' := pks x o2 (beN 2 k ++ note) ++ [dkI d2, pt xb (.cells (bytesV (if k = 0 then bm0 k else zeroB)).toArray 5 (0, 0)), ctI]) (fun w' hw' => hw') ?_
      have htl : (beN 2 k ++ note).length ≤ 42 := by rw [List.length_append, beN_length]; omega
      generalize beN 2 k ++ note = tx at htl ⊢
      refine l_opg rfl (o_cu (pre := pks x o2 tx) rfl (by kernel_rfl) rfl (by simp [pt_stable, own_stable]) (fun w1 hw1 hh1 ha1 => bytes_calls x o2 tx (by omega) w1 hh1 ha1)) fun ⟨o3, _⟩ => ?_
      dsimp only
      refine l_fact (fun w hw => (own_val (hw.item (own 5 1 o3 tx.length (bytesV tx)) (.head _)).1)) fun ⟨hsl2, _⟩ => ?_
      rw [hsl2]
      refine goA ?_
      refine l_w rfl (v_bstr (bs := tx) rfl rfl rfl rfl (fun w' hw' => own_Rd (hw'.item (own 5 1 o3 tx.length (bytesV tx)) (.head _)).1)) ?_
      refine l_pick [3, 5, 0, 1, 2, 4] rfl rfl ?_
      rw [← hd2.1]
      refine l_opg rfl (o_cu (pre := [dkI d2, ctI]) rfl (by kernel_rfl) rfl (dc_stable d2) (fun w1 hw1 hh1 ha1 => format_calls d2 hfo hl1' (by rw [hk1, hkk.1]; exact hkl) (by rw [hk2]; decide) log hl1 hl2 (by rw [hl2', hlen1]; omega) tx (by omega) w1 hh1 ha1)) fun ⟨d3, hd3⟩ => ?_
      refine goA ?_
      exact x_ct d3 rfl rfl rfl ⟨hd3.1.trans hok2.1, hd3.2.1.trans hok2.2.1, hd3.2.2⟩ (.cons_cons _ (.cons_cons _ (List.nil_sublist _))) (dc_stable d3)
    · have hne : ((r2.1 : Int) != 0) = true := by simp [he]
      rw [hne]
      simp only [if_neg he]
      refine goA ?_
      exact x_ct d2 rfl rfl rfl hok2 (.cons_cons _ (.cons _ (.refl _))) (dc_stable d2)
end Go.Proofs.YtplhamichcnmmaaGreatDoor

namespace Go.Proofs.YtplhamichcnmmaaGreatDoor
open Go.RowKit Go.Eng
set_option maxRecDepth 100000
abbrev ftT : List ((Dk × Lg → Nat) × (Dk × Lg → Dk × Lg → Prop)) :=
  [(fun x => (flushG x.1.D).1, fun x x' => dkOf x.1 (flushG x.1.D).2 x'.1 ∧ x'.2 = x.2),
   (fun x => (writeHF x.1.D (otherF x.2.at_) (trimH x.2)).1, fun x x' => dkOf x.1 (writeHF x.1.D (otherF x.2.at_) (trimH x.2)).2 x'.1 ∧ x'.2 = { trimG x.2 x.1.D with dead := decide ((writeHF x.1.D (otherF x.2.at_) (trimH x.2)).1 = 4) })]
def ftV (s : Pg) (d : Dk) : List (FuncId × List Value × List Value) := [(52, [.pointer (some ⟨d.b, 0, none⟩)], []), (53, [.pointer (some ⟨s.bl, 0, none⟩)], [])]
def ftF (D : Dsk) (g : Lg) : Nat × Dsk × Lg :=
  if (flushG D).1 = 0 then ((writeHF (flushG D).2 (otherF g.at_) (trimH g)).1, (writeHF (flushG D).2 (otherF g.at_) (trimH g)).2, { trimG g (flushG D).2 with dead := decide ((writeHF (flushG D).2 (otherF g.at_) (trimH g)).1 = 4) })
  else ((flushG D).1, (flushG D).2, g)
theorem ft_all {d : Dk} {g : Lg} {x : Nat × (Dk × Lg)} (h : AllR ftT (d, g) x) : x.1 = (ftF d.D g).1 ∧ dkOf d (ftF d.D g).2.1 x.2.1 ∧ x.2.2 = (ftF d.D g).2.2 := by
  obtain ⟨⟨d1, g1⟩, ⟨h1, h2⟩, h⟩ := h
  simp only at h1 h2 h
  subst h2
  unfold ftF
  by_cases e1 : (flushG d.D).1 = 0
  · rw [if_pos e1] at h ⊢
    obtain ⟨⟨d2, g2⟩, ⟨h3, h4⟩, h⟩ := h
    simp only at h3 h4 h
    rw [h1.2.2] at h3 h4 h
    have hx : x = ((writeHF (flushG d.D).2 (otherF g1.at_) (trimH g1)).1, (d2, g2)) := by
      by_cases e3 : (writeHF (flushG d.D).2 (otherF g1.at_) (trimH g1)).1 = 0
      · rw [if_pos e3] at h
        rw [e3]; exact h
      · rw [if_neg e3] at h; exact h
    subst hx
    exact ⟨rfl, h1.trans h3, h4⟩
  · rw [if_neg e1] at h ⊢
    subst h
    exact ⟨rfl, h1, rfl⟩
def ftI (d : Dk) (g : Lg) (k : Nat) (x : Dk × Lg) : Prop := match k with
  | 0 => x = (d, g)
  | 1 => dkOf d (flushG d.D).2 x.1 ∧ (flushG d.D).1 = 0 ∧ x.2 = g
  | _ => True
def ftB (s : Pg) (x : Dk × Lg) : List Eng.Item := [pgI { s with g := x.2 } x.1, dkI x.1, ctI]
theorem ftB_stable (s : Pg) (x : Dk × Lg) : ∀ it ∈ ftB s x, it.Stable none' := pdc_stable _ _
theorem ft_step (s : Pg) (d : Dk) (ok : d.D.Ok) (hkl : d.D.keep.length ≤ 1000000) (hwl : d.D.wait.length ≤ 1000000) (hgo : s.g.h.Ok) (hnx : s.g.next < 18446744073709551616) (hat : s.g.at_ = 0 ∨ s.g.at_ = 1) (hgd : s.g.dead = false) :
    ∀ (k : Nat) (f : FuncId × List Value × List Value) (t : (Dk × Lg → Nat) × (Dk × Lg → Dk × Lg → Prop)) (x : Dk × Lg), (ftV s d)[k]? = some f → ftT[k]? = some t → ftI d s.g k x →
      hasBody Tryz.prog f.1 = true ∧ ∀ w, (∀ it ∈ ftB s x, Here it w) → (ftB s x).Pairwise Eng.Item.Apart → Ct Tryz.prog f.1 (f.2.1 ++ f.2.2).toArray w (foots (ftB s x)) (fun _ : Dk × Lg => .int .i64 (t.1 x : Nat)) (t.2 x) (fun x' => ftB s x') := by
  intro k f t x hf ht hI
  match k, hf, ht, hI with
  | 0, hf, ht, hI =>
    cases hf; cases ht
    have hI : x = (d, s.g) := hI
    subst hI
    refine ⟨by kernel_rfl, fun w hw ha => ?_⟩
    refine Ct.conv (fun d' => (d', s.g)) (pre2 := [dkI d]) (rest := [pgI s d, ctI]) ?_ (by intro it hm; rcases hm with _ | ⟨_, hm⟩ <;> first | exact bundle_stable _ | exact (nomatch hm)) (fun hh ha2 => flush_calls d ok hkl (by omega) w hh) (fun _ _ => rfl) (fun d' hd' => ⟨hd', rfl⟩) (ftB_stable s) (fun d' w' hd' h => ?_)
    · exact (Hp.begin hw ha _ (fun _ h => h)).pick [1, 0, 2] rfl rfl
    · have e : pgI s d = pgI s d' := (pgI_b hd'.1).symm
      rw [e] at h
      exact h.pick [1, 0, 2] rfl rfl
  | 1, hf, ht, hI =>
    cases hf; cases ht
    obtain ⟨d1, g1⟩ := x
    obtain ⟨hd1, e1, rfl⟩ : dkOf d (flushG d.D).2 d1 ∧ (flushG d.D).1 = 0 ∧ g1 = s.g := hI
    have hk2 := flush_keep e1
    have hDD := hd1.2.2
    refine ⟨by kernel_rfl, fun w hw ha => ?_⟩
    refine Ct.conv (fun d' => (d', { trimG s.g d1.D with dead := decide ((writeHF d1.D (otherF s.g.at_) (trimH s.g)).1 = 4) })) (pre2 := [lgI s.bl d1 s.g, dkI d1, ctI]) (rest := [pgC s d1, mapN .i64 s.kb (toP s.K), mapN .i64 s.db (toB s.R), mapN .i64 s.cb (toP s.C)]) ?_ (by intro it hm; rcases hm with _ | ⟨_, hm⟩ <;> first | exact pt_stable _ _ _ | exact dc_stable d1 it hm) (fun hh ha2 => trim_calls s.bl d1 s.g (by rw [hDD]; exact flushG_ok ok) (by rw [hDD, hk2.1]; exact hkl) (by rw [hDD, hk2.2]; decide) hgo hnx hat hgd w hh ha2) (fun _ _ => rfl) (fun d' hd' => ⟨hd', rfl⟩) (ftB_stable s) (fun d' w' hd' h => ?_)
    · exact (pg_open (s := s) (m := [dkI d1, ctI]) (Hp.begin hw ha _ (fun _ h => h))).pick [1, 5, 6, 0, 2, 3, 4] rfl rfl
    · have e : pgC s d1 = pgC s d' := by unfold pgC pgA; rw [hd'.1]
      rw [e] at h
      exact pg_close (s := { s with g := { trimG s.g d1.D with dead := decide ((writeHF d1.D (otherF s.g.at_) (trimH s.g)).1 = 4) } }) (m := [dkI d', ctI]) (h.pick [3, 0, 4, 5, 6, 1, 2] rfl rfl)
  | k + 2, hf, _, _ => cases hf
theorem ft_calls (s : Pg) (d : Dk) (bq : Nat) (ok : d.D.Ok) (hkl : d.D.keep.length ≤ 1000000) (hwl : d.D.wait.length ≤ 1000000) (hgo : s.g.h.Ok) (hnx : s.g.next < 18446744073709551616) (hat : s.g.at_ = 0 ∨ s.g.at_ = 1) (hgd : s.g.dead = false) (w : World) (hw : ∀ it ∈ [pgI s d, dkI d, ctI, fvI bq 2 (ftV s d)], Here it w) (ha : [pgI s d, dkI d, ctI, fvI bq 2 (ftV s d)].Pairwise Eng.Item.Apart) :
    Ct Tryz.prog 51 #[.slice (some ⟨bq, 0, none⟩) 2 2] w (foots [pgI s d, dkI d, ctI, fvI bq 2 (ftV s d)]) (fun _ : Dk => .int .i64 ((ftF d.D s.g).1 : Nat)) (dkOf d (ftF d.D s.g).2.1) (fun d' => [pgI { s with g := (ftF d.D s.g).2.2 } d', dkI d', ctI]) := by
  have hI : ∀ k (t : (Dk × Lg → Nat) × (Dk × Lg → Dk × Lg → Prop)) x x', ftT[k]? = some t → ftI d s.g k x → t.2 x x' → t.1 x = 0 → ftI d s.g (k + 1) x' := by
    intro k t x x' ht hI h2 h1
    match k, ht, hI with
    | 0, ht, hI =>
      cases ht
      have hI : x = (d, s.g) := hI
      subst hI
      exact ⟨h2.1, h1, h2.2⟩
    | 1, ht, hI => trivial
    | k + 2, ht, _ => cases ht
  have h := all_calls (ftB s) (ftV s d) ftT rfl (ftI d s.g) (d, s.g) rfl (ftB_stable s) (by show (2 : Nat) ≤ 1000; decide) (ft_step s d ok hkl hwl hgo hnx hat hgd) hI bq 2 w hw ha
  unfold Ct at h ⊢
  refine h.mono ?_
  rintro e w' ⟨⟨e1, d', g'⟩, he, hx, hi⟩
  obtain ⟨h1, h2, h3⟩ := ft_all hx
  simp only at h1 h2 h3 he
  subst h1 h3
  exact ⟨d', he, h2, hi⟩
end Go.Proofs.YtplhamichcnmmaaGreatDoor
