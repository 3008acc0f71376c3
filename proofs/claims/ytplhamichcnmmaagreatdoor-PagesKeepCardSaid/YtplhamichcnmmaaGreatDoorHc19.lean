/- package wal: Trim. -/
/- The plain law of sheets and heads: what is put is taken; the pieces of a text. -/
/- The plain law of the disk: several writes, then a flush; what a dead disk has. -/
/- The plain law of the log: the sheets that lie in their places, by their numbers. -/
import Derived.Test.YtplhamichcnmmaaGreatDoorHc18
import Derived.Test.YtplhamichcnmmaaGreatDoorHc17
namespace Go.Proofs.YtplhamichcnmmaaGreatDoor
open Go.RowKit Go.Eng
set_option maxRecDepth 100000
set_option maxHeartbeats 40000000
theorem trim_calls (b : Nat) (d : Dk) (g : Lg) (ok : d.D.Ok) (hkl : d.D.keep.length ≤ 1000000) (hwl : d.D.wait.length ≤ 1000000) (hg : g.h.Ok) (hnx : g.next < 18446744073709551616) (hat : g.at_ = 0 ∨ g.at_ = 1) (hdead : g.dead = false) (w : World)
    (hw : ∀ it ∈ [lgI b d g, dkI d, ctI], Here it w) (ha : [lgI b d g, dkI d, ctI].Pairwise Eng.Item.Apart) :
    Ct Tryz.prog 53 #[.pointer (some ⟨b, 0, none⟩)] w (foots [lgI b d g, dkI d, ctI]) (fun _ : Dk => .int .i64 ((writeHF d.D (otherF g.at_) (trimH g)).1 : Nat)) (dkOf d (writeHF d.D (otherF g.at_) (trimH g)).2) (fun d' => [lgI b d' { trimG g d.D with dead := decide ((writeHF d.D (otherF g.at_) (trimH g)).1 = 4) }, dkI d', ctI]) := by
  refine cu_of [_] _ Tryz.func53 rfl rfl hw ha ?_
  simp only [argSlots]
  refine goA ?_
  refine l_box1 rfl rfl rfl fun bl _ => ?_
  refine goA ?_
  refine l_w rfl (v_mkf rfl) ?_
  refine l_pick [1, 0, 2, 3] rfl rfl ?_
  have hst : ∀ (d1 : Dk) (g1 : Lg), ∀ it ∈ [lgI b d1 g1, boxI bl b, dkI d1, ctI], it.Stable none' := by
    intro d1 g1 it hm
    rcases hm with _ | ⟨_, _ | ⟨_, hm⟩⟩
    · exact pt_stable _ _ _
    · exact pt_stable _ _ _
    · exact dc_stable d1 it hm
  refine l_opg rfl (o_cu (pre := [lgI b d g, boxI bl b, dkI d, ctI]) rfl (by kernel_rfl) rfl (hst d g) (fun w1 hw1 hh1 ha1 => does_calls (f := 102) (cs := [.pointer (some ⟨bl, 0, none⟩)]) (by kernel_rfl) b d g hdead [boxI bl b, dkI d, ctI] (fun _ : Dk => (writeHF d.D (otherF g.at_) (trimH g)).1) (dkOf d (writeHF d.D (otherF g.at_) (trimH g)).2) (fun d' => d') (fun _ => trimG g d.D) (fun d' => [boxI bl b, dkI d', ctI]) (fun it hm => hst d g it (.tail _ hm)) (fun d' it hm => hst d' g it (.tail _ hm)) (fun w2 hh2 ha2 => trim1_calls bl b d g ok hkl hwl hg hnx hat w2 hh2 ha2) w1 hh1 ha1)) fun ⟨d', hd'⟩ => ?_
  refine goA ?_
  exact x_ct d' rfl rfl rfl hd' (.cons_cons _ (.cons _ (.refl _))) (fun it hm => hst d' _ it (by
    rcases hm with _ | ⟨_, hm⟩
    · exact .head _
    · exact .tail _ (.tail _ hm)))
end Go.Proofs.YtplhamichcnmmaaGreatDoor

namespace Go.Proofs.YtplhamichcnmmaaGreatDoor
set_option maxRecDepth 100000
theorem shtR_P {s : Sht} (hq : s.seq < 18446744073709551616) (ht : s.text.length ≤ 497) : ∃ r, shtR (shtP s) = (s, (r, false)) := by
  unfold shtP
  generalize beN 4 (revB (crcF (shtH s))).toNat = c
  obtain ⟨seq, last, text⟩ := s
  unfold shtH
  simp only at hq ht ⊢
  simp only [List.append_assoc]
  refine ⟨List.replicate (497 - text.length) 0 ++ c, ?_⟩
  unfold shtR
  rw [opN_ok (show seq < 256 ^ 8 from hq)]
  simp only
  rw [opN_ok (show (if last then 2 else 1) < 256 ^ 1 by cases last <;> decide)]
  simp only
  rw [opN_ok (show text.length < 256 ^ 2 by omega)]
  simp only
  rw [opT_ok]
  simp only
  cases last <;> simp
theorem sht_ok {s : Sht} (hq : s.seq < 18446744073709551616) (ht : s.text.length ≤ 497) : shtOk (shtP s) = true ∧ shtT (shtP s) = s := by
  obtain ⟨r, hr⟩ := shtR_P hq ht
  have h1 : shtOk (shtP s) = true := by
    unfold shtOk
    rw [hr]
    simp [ht]
  refine ⟨h1, ?_⟩
  unfold shtT
  rw [h1, hr]
  rfl
theorem opName_ok (a b : Bys) (h : a.length < 256) : opName (beN 1 a.length ++ (a ++ b), false) = (a, (b, false)) := by
  obtain ⟨x, hx⟩ : ∃ x : UInt8, beN 1 a.length = [x] := List.length_eq_one_iff.1 (beN_length 1 _)
  have hv : beV (beN 1 a.length) = a.length := beV_beN 1 _ (by simpa using h)
  rw [hx] at hv ⊢
  have hxv : x.toNat = a.length := by simpa [beV] using hv
  unfold opName
  simp [hxv]
theorem hdR_P {h : Hd} (ok : h.Ok) : ∃ r, hdR (hdP h) = (h, (r, false)) := by
  obtain ⟨hg, hf, hs, hn⟩ := ok
  unfold hdP
  generalize beN 4 (crcF (hdH h)).toNat = c
  obtain ⟨gen, first, secs, note⟩ := h
  unfold hdH
  simp only at hg hf hs hn ⊢
  simp only [List.append_assoc]
  refine ⟨List.replicate (489 - note.length) 0 ++ c, ?_⟩
  unfold hdR
  rw [opN_ok (show gen < 256 ^ 8 from hg)]
  simp only
  rw [opN_ok (show first < 256 ^ 8 from hf)]
  simp only
  rw [opN_ok (show secs < 256 ^ 2 from hs)]
  simp only
  rw [opName_ok note _ (by omega)]
theorem hd_ok {h : Hd} (ok : h.Ok) : hdOk (hdP h) = true ∧ hdT (hdP h) = h := by
  obtain ⟨r, hr⟩ := hdR_P ok
  have h1 : hdF (hdP h) = true := by
    unfold hdF
    rw [hr]
    simp [ok.note]
  refine ⟨?_, ?_⟩
  · unfold hdOk
    rw [h1, hr]
    simp
  · unfold hdT
    rw [h1, hr]
    rfl
def pcS (q : Nat) (t : Bys) (j : Nat) : Sht := ⟨q + j, decide (j + 1 = needF t.length), (t.drop (497 * j)).take 497⟩
theorem pcS_len (q : Nat) (t : Bys) (j : Nat) : (pcS q t j).text.length ≤ 497 := by
  show ((t.drop (497 * j)).take 497).length ≤ 497
  rw [List.length_take]; omega
theorem needF_pos (n : Nat) : 1 ≤ needF n := by unfold needF; omega
theorem needF_lt {n j : Nat} (h : j + 1 < needF n) : 497 * (j + 1) < n := by unfold needF at h; omega
theorem needF_last {n j : Nat} (h : j + 1 = needF n) : n ≤ 497 * (j + 1) := by unfold needF at h; omega
theorem pcS_ne {q : Nat} {t : Bys} {j : Nat} (ht : t ≠ []) (hj : j < needF t.length) : (pcS q t j).text ≠ [] := by
  have hl : 0 < t.length := List.length_pos_iff.2 ht
  intro h
  have h1 : ((t.drop (497 * j)).take 497).length = 0 := by rw [show (t.drop (497 * j)).take 497 = [] from h]; rfl
  rw [List.length_take, List.length_drop] at h1
  unfold needF at hj
  omega
theorem take_piece (t : Bys) (j : Nat) : t.take (497 * j) ++ (t.drop (497 * j)).take 497 = t.take (497 * (j + 1)) := by
  rw [Nat.mul_add, Nat.mul_one, List.take_add]
theorem nxt_add {q : Nat} (h : q + 1 < 18446744073709551616) : nxt q = q + 1 := Nat.mod_eq_of_lt h
theorem texts_run {B : SRows} {q : Nat} {t : Bys} (hq : q + needF t.length < 18446744073709551616) (h : ∀ j, j < needF t.length → B.lookup (q + j) = some (pcS q t j)) (f : Nat) (acc : List Bys) :
    ∀ d j, j + d + 1 = needF t.length → textsF B (f + (d + 1)) (q + j) (t.take (497 * j)) acc = textsF B f (q + needF t.length) [] (acc ++ [t])
  | 0, j, hd => by
    rw [Nat.zero_add, textsF, h j (by omega)]
    simp only
    have e : (pcS q t j).last = true := decide_eq_true (by omega)
    have e2 : nxt (q + j) = q + needF t.length := by rw [nxt_add (by omega)]; omega
    have e3 : t.take (497 * j) ++ (pcS q t j).text = t := by
      show t.take (497 * j) ++ (t.drop (497 * j)).take 497 = t
      rw [take_piece]
      exact List.take_of_length_le (needF_last (by omega))
    rw [e, if_pos rfl, e2, e3]
  | d + 1, j, hd => by
    rw [show f + (d + 1 + 1) = (f + (d + 1)) + 1 by omega, textsF, h j (by omega)]
    simp only
    have e : (pcS q t j).last = false := decide_eq_false (by omega)
    have e2 : nxt (q + j) = q + (j + 1) := by rw [nxt_add (by omega)]; omega
    have e3 : t.take (497 * j) ++ (pcS q t j).text = t.take (497 * (j + 1)) := take_piece t j
    rw [e, e2, e3]
    exact texts_run hq h f acc d (j + 1) (by omega)
theorem texts_one {B : SRows} {q : Nat} {t : Bys} (hq : q + needF t.length < 18446744073709551616) (h : ∀ j, j < needF t.length → B.lookup (q + j) = some (pcS q t j)) (f : Nat) (acc : List Bys) :
    textsF B (f + needF t.length) q [] acc = textsF B f (q + needF t.length) [] (acc ++ [t]) := by
  have hp := needF_pos t.length
  have := texts_run hq h f acc (needF t.length - 1) 0 (by omega)
  rw [show needF t.length - 1 + 1 = needF t.length by omega] at this
  simpa using this
theorem texts_part {B : SRows} {q k : Nat} {t : Bys} (hq : q + needF t.length < 18446744073709551616) (hk : k < needF t.length) (h : ∀ j, j < k → B.lookup (q + j) = some (pcS q t j)) (hn : B.lookup (q + k) = none) (acc : List Bys) :
    ∀ f j, j ≤ k → textsF B f (q + j) (t.take (497 * j)) acc = acc
  | 0, _, _ => rfl
  | f + 1, j, hj => by
    rw [textsF]
    rcases Nat.lt_or_eq_of_le hj with hj | rfl
    · rw [h j hj]
      simp only
      have e : (pcS q t j).last = false := decide_eq_false (by omega)
      have e2 : nxt (q + j) = q + (j + 1) := by rw [nxt_add (by omega)]; omega
      have e3 : t.take (497 * j) ++ (pcS q t j).text = t.take (497 * (j + 1)) := take_piece t j
      rw [e, e2, e3]
      exact texts_part hq hk h hn acc f (j + 1) hj
    · rw [hn]
def endF : Nat → List Bys → Nat
  | q, [] => q
  | q, t :: ts => endF (q + needF t.length) ts
theorem endF_le : ∀ (ts : List Bys) (q : Nat), q ≤ endF q ts
  | [], _ => Nat.le_refl _
  | t :: ts, q => Nat.le_trans (Nat.le_add_right _ _) (endF_le ts _)
theorem endF_app : ∀ (ts : List Bys) (q : Nat) (t : Bys), endF q (ts ++ [t]) = endF q ts + needF t.length
  | [], _, _ => rfl
  | _ :: ts, q, t => endF_app ts _ t
theorem endF_len : ∀ (ts : List Bys) (q : Nat), q + ts.length ≤ endF q ts
  | [], q => Nat.le_refl _
  | t :: ts, q => by
    have h1 := endF_len ts (q + needF t.length)
    have h2 := needF_pos t.length
    rw [endF, List.length_cons]
    omega
def HasT (B : SRows) : Nat → List Bys → Prop
  | _, [] => True
  | q, t :: ts => (∀ j, j < needF t.length → B.lookup (q + j) = some (pcS q t j)) ∧ HasT B (q + needF t.length) ts
theorem HasT.all {B : SRows} : ∀ {ts : List Bys} {q : Nat}, HasT B q ts → ∀ k, q ≤ k → k < endF q ts → ∃ s, B.lookup k = some s
  | [], _, _, k, h1, h2 => absurd h2 (by rw [endF]; omega)
  | t :: ts, q, h, k, h1, h2 => by
    by_cases hk : k < q + needF t.length
    · have := h.1 (k - q) (by omega)
      rw [show q + (k - q) = k by omega] at this
      exact ⟨_, this⟩
    · exact HasT.all h.2 k (by omega) h2
theorem HasT.app {B : SRows} : ∀ {ts : List Bys} {q : Nat} {t : Bys}, HasT B q ts → (∀ j, j < needF t.length → B.lookup (endF q ts + j) = some (pcS (endF q ts) t j)) → HasT B q (ts ++ [t])
  | [], _, _, _, h2 => ⟨h2, trivial⟩
  | _ :: _, _, _, h, h2 => ⟨h.1, HasT.app h.2 h2⟩
theorem texts_all {B : SRows} (f : Nat) : ∀ (ts : List Bys) (q : Nat) (acc : List Bys), endF q ts < 18446744073709551616 → HasT B q ts → textsF B (f + (endF q ts - q)) q [] acc = textsF B f (endF q ts) [] (acc ++ ts)
  | [], q, acc, _, _ => by simp [endF]
  | t :: ts, q, acc, hq, h => by
    have h1 := endF_le ts (q + needF t.length)
    rw [endF] at hq
    have e : f + (endF q (t :: ts) - q) = (f + (endF (q + needF t.length) ts - (q + needF t.length))) + needF t.length := by rw [endF]; omega
    rw [e, texts_one (by omega) h.1, texts_all f ts _ _ hq h.2, endF]
    simp
theorem rows_many : ∀ (m : Nat) (B : SRows) (q : Nat), (∀ k, q ≤ k → k < q + m → ∃ s, B.lookup k = some s) → m ≤ B.length
  | 0, _, _, _ => Nat.zero_le _
  | m + 1, B, q, h => by
    obtain ⟨s, hs⟩ := h (q + m) (by omega) (by omega)
    have hm := lookup_memS hs
    have h1 : (B.filter fun p => decide (p.1 ≠ q + m)).length < B.length := by
      refine List.length_filter_lt_length_iff_exists.2 ⟨_, hm, by simp⟩
    have h2 := rows_many m (B.filter fun p => decide (p.1 ≠ q + m)) q fun k hk1 hk2 => by
      obtain ⟨s', hs'⟩ := h k hk1 (by omega)
      refine ⟨s', ?_⟩
      have : ∀ (L : SRows), (L.filter fun p => decide (p.1 ≠ q + m)).lookup k = L.lookup k := by
        intro L
        induction L with
        | nil => rfl
        | cons p L ih =>
          by_cases hp : p.1 = q + m
          · rw [List.filter_cons_of_neg (by simp [hp]), ih, List.lookup_cons, show (k == p.1) = false by simp; omega]
          · rw [List.filter_cons_of_pos (by simp [hp]), List.lookup_cons, List.lookup_cons, ih]
      rw [this, hs']
    omega
theorem texts_read {B : SRows} {ts : List Bys} {q : Nat} (hq : endF q ts < 18446744073709551616) (h : HasT B q ts) (hstop : ∀ f acc, textsF B f (endF q ts) [] acc = acc) : textsF B (B.length + 1) q [] [] = ts := by
  have h1 := endF_le ts q
  have h2 := rows_many (endF q ts - q) B q fun k hk1 hk2 => h.all k hk1 (by omega)
  obtain ⟨f, hf⟩ : ∃ f, B.length + 1 = f + (endF q ts - q) := ⟨B.length + 1 - (endF q ts - q), by omega⟩
  rw [hf, texts_all f ts q [] hq h, hstop]
  rfl
theorem stop_none {B : SRows} {q : Nat} (h : B.lookup q = none) (f : Nat) (acc : List Bys) : textsF B f q [] acc = acc := by
  cases f with
  | zero => rfl
  | succ f => rw [textsF, h]
theorem stop_part {B : SRows} {q k : Nat} {t : Bys} (hq : q + needF t.length < 18446744073709551616) (hk : k < needF t.length) (h : ∀ j, j < k → B.lookup (q + j) = some (pcS q t j)) (hn : B.lookup (q + k) = none) (f : Nat) (acc : List Bys) : textsF B f q [] acc = acc := by
  have := texts_part hq hk h hn acc f 0 (Nat.zero_le _)
  simpa using this
end Go.Proofs.YtplhamichcnmmaaGreatDoor

namespace Go.Proofs.YtplhamichcnmmaaGreatDoor
set_option maxRecDepth 100000
theorem snocI {α : Type} {M : List α → Prop} (h0 : M []) (hs : ∀ l x, M l → M (l ++ [x])) (l : List α) : M l := by
  rw [← List.reverse_reverse l]
  generalize l.reverse = r
  induction r with
  | nil => exact h0
  | cons x r ih => rw [List.reverse_cons]; exact hs _ _ ih
def wrsF (D : Dsk) : List (Nat × Bys) → Nat × Dsk
  | [] => (0, D)
  | p :: l => if (writeF D p.1 p.2).1 = 0 then wrsF (writeF D p.1 p.2).2 l else writeF D p.1 p.2
def batF (D : Dsk) (ws : List (Nat × Bys)) : Nat × Dsk := if (wrsF D ws).1 = 0 then flushG (wrsF D ws).2 else wrsF D ws
theorem writeHF_bat (D : Dsk) (a : Nat) (h : Hd) : writeHF D a h = batF D [(a, hdP h)] := by
  unfold writeHF batF wrsF wrsF
  split
  · rw [if_pos rfl]
  · rfl
def setAll (on : List Bys) : List (Nat × Bys) → List Bys
  | [] => on
  | p :: l => setAll (on.set p.1 p.2) l
theorem setAll_len : ∀ (ws : List (Nat × Bys)) (on : List Bys), (setAll on ws).length = on.length
  | [], _ => rfl
  | p :: l, on => by rw [setAll, setAll_len l, List.length_set]
theorem setAll_app : ∀ (ws : List (Nat × Bys)) (on : List Bys) (p : Nat × Bys), setAll on (ws ++ [p]) = (setAll on ws).set p.1 p.2
  | [], _, _ => rfl
  | _ :: l, on, p => setAll_app l _ p
def Mix (on : List Bys) (ws : List (Nat × Bys)) (on' : List Bys) : Prop := on'.length = on.length ∧ ∀ i, i < on.length → on'[i]? = on[i]? ∨ ∃ s, (i, s) ∈ ws ∧ on'[i]? = some s
theorem Mix.refl (on : List Bys) (ws : List (Nat × Bys)) : Mix on ws on := ⟨rfl, fun _ _ => .inl rfl⟩
theorem Mix.more {on on' : List Bys} {ws ws' : List (Nat × Bys)} (h : Mix on ws on') (hs : ∀ p ∈ ws, p ∈ ws') : Mix on ws' on' := ⟨h.1, fun i hi => (h.2 i hi).imp id fun ⟨s, h1, h2⟩ => ⟨s, hs _ h1, h2⟩⟩
theorem Mix.set {on on' : List Bys} {ws : List (Nat × Bys)} (h : Mix on ws on') {p : Nat × Bys} (hp : p ∈ ws) : Mix on ws (on'.set p.1 p.2) := by
  refine ⟨by rw [List.length_set, h.1], fun i hi => ?_⟩
  by_cases e : p.1 = i
  · refine .inr ⟨p.2, by rw [← e]; exact hp, ?_⟩
    rw [← e, List.getElem?_set_self (by rw [h.1, e]; exact hi)]
  · rw [List.getElem?_set_ne e]
    exact h.2 i hi
theorem Mix.all (on : List Bys) : ∀ ws : List (Nat × Bys), Mix on ws (setAll on ws) := fun ws => by
  induction ws using snocI with
  | h0 => exact .refl _ _
  | hs l p ih =>
    rw [setAll_app]
    exact (ih.more fun q hq => List.mem_append_left _ hq).set (List.mem_append_right _ (.head _))
def swp (ws : List (Nat × Bys)) : List (Bys × Nat) := ws.map fun p => (p.2, p.1)
theorem appN_mix (on : List Bys) (ws : List (Nat × Bys)) (f : Nat → Bool) : ∀ k, k ≤ ws.length → Mix on ws (appN on (swp ws) f k)
  | 0, _ => .refl _ _
  | k + 1, hk => by
    have ih := appN_mix on ws f k (by omega)
    rw [appN]
    split
    · have e : (swp ws).getD k ([], 0) = ((ws[k]'hk).2, (ws[k]'hk).1) := by simp [swp, List.getD, List.getElem?_eq_getElem hk]
      rw [e]
      exact ih.set (List.getElem_mem hk)
    · exact ih
theorem appN_all (on : List Bys) (ws : List (Nat × Bys)) : ∀ k, k ≤ ws.length → appN on (swp ws) (fun _ => true) k = setAll on (ws.take k)
  | 0, _ => rfl
  | k + 1, hk => by
    rw [appN, if_pos rfl, appN_all on ws k (by omega), List.take_succ_eq_append_getElem hk, setAll_app]
    simp [swp, List.getD, List.getElem?_eq_getElem hk]
structure Dsk.Rest (D : Dsk) : Prop where
  live : D.dead = false
  wait : D.wait = []
def wsOk (D : Dsk) (ws : List (Nat × Bys)) : Prop := ∀ p ∈ ws, p.1 < D.on.length ∧ p.2.length = 512
theorem wrs_cases {D : Dsk} {pre : List (Nat × Bys)} : ∀ {ws : List (Nat × Bys)} {D1 : Dsk}, wsOk D ws → D1.dead = false → D1.on = D.on → D1.wait = swp pre → D1.keep = D.keep → (D.left = none → D1.left = none) →
    ((wrsF D1 ws).1 = 0 ∧ (wrsF D1 ws).2.dead = false ∧ (wrsF D1 ws).2.on = D.on ∧ (wrsF D1 ws).2.wait = swp (pre ++ ws) ∧ (wrsF D1 ws).2.keep = D.keep ∧ (D.left = none → (wrsF D1 ws).2.left = none)) ∨
    (D.left ≠ none ∧ (wrsF D1 ws).1 = 4 ∧ (wrsF D1 ws).2.dead = true ∧ (wrsF D1 ws).2.wait = [] ∧ (wrsF D1 ws).2.left = none ∧ (wrsF D1 ws).2.keep = [] ∧ Mix D.on (pre ++ ws) (wrsF D1 ws).2.on)
  | [], D1, _, h1, h2, h3, h4, h5 => .inl ⟨rfl, h1, h2, by rw [List.append_nil]; exact h3, h4, h5⟩
  | p :: l, D1, hw, h1, h2, h3, h4, h5 => by
    obtain ⟨hp1, hp2⟩ := hw p (.head _)
    have ihl : wsOk D l := fun q hq => hw q (.tail _ hq)
    have hwf : writeF D1 p.1 p.2 = if (actF D1).1 = 0 then (0, { (actF D1).2 with wait := (actF D1).2.wait ++ [(p.2, p.1)] }) else actF D1 := by
      unfold writeF
      rw [h1, if_neg (by decide), if_neg (by rw [h2]; exact fun h => h hp1), if_neg (by rw [hp2]; decide)]
    rw [wrsF, hwf]
    unfold actF
    cases hl : D1.left with
    | none =>
      simp only [if_true]
      have := wrs_cases (D := D) (pre := pre ++ [p]) (ws := l) (D1 := { D1 with wait := D1.wait ++ [(p.2, p.1)] }) ihl h1 h2 (by simp [h3, swp]) h4 h5
      rw [List.append_assoc] at this
      exact this
    | some n =>
      cases n with
      | zero =>
        right
        have hD : D.left ≠ none := fun h => by rw [h5 h] at hl; cases hl
        refine ⟨hD, ?_⟩
        refine ⟨rfl, rfl, rfl, rfl, rfl, ?_⟩
        have := appN_mix D.on pre (keepB D1.keep) pre.length (Nat.le_refl _)
        show Mix D.on _ (goesF D1 D1.keep).on
        unfold goesF
        rw [h2, h3]
        show Mix D.on _ (appN D.on (swp pre) (keepB D1.keep) (swp pre).length)
        rw [show (swp pre).length = pre.length by simp [swp]]
        exact this.more fun q hq => List.mem_append_left _ hq
      | succ n =>
        simp only [if_true]
        have := wrs_cases (D := D) (pre := pre ++ [p]) (ws := l) (D1 := { D1 with left := some n, wait := D1.wait ++ [(p.2, p.1)] }) ihl h1 h2 (by simp [h3, swp]) h4 (fun h => by rw [h5 h] at hl; cases hl)
        rw [List.append_assoc] at this
        exact this
theorem bat_cases {D : Dsk} (hr : D.Rest) {ws : List (Nat × Bys)} (hw : wsOk D ws) :
    ((batF D ws).1 = 0 ∧ (batF D ws).2.Rest ∧ (batF D ws).2.on = setAll D.on ws ∧ (batF D ws).2.keep = D.keep ∧ (D.left = none → (batF D ws).2.left = none)) ∨
    (D.left ≠ none ∧ (batF D ws).1 = 4 ∧ (batF D ws).2.dead = true ∧ (batF D ws).2.wait = [] ∧ (batF D ws).2.left = none ∧ (batF D ws).2.keep = [] ∧ Mix D.on ws (batF D ws).2.on) := by
  have h0 := wrs_cases (D := D) (pre := []) (D1 := D) hw hr.live rfl (by rw [hr.wait]; rfl) rfl id
  simp only [List.nil_append] at h0
  unfold batF
  generalize wrsF D ws = r at h0 ⊢
  rcases h0 with ⟨a1, a2, a3, a4, a5, a6⟩ | ⟨b0, b1, b2, b3, b4, b5, b6⟩
  · rw [if_pos a1]
    obtain ⟨r1, D1⟩ := r
    simp only at a1 a2 a3 a4 a5 a6 ⊢
    have hfl : flushG D1 = if (actF D1).1 = 0 then (0, flushF (actF D1).2) else actF D1 := by
      unfold flushG
      rw [a2, if_neg (by decide)]
    rw [hfl]
    unfold actF
    have hlen : (swp ws).length = ws.length := by simp [swp]
    cases hl : D1.left with
    | none =>
      rw [if_pos rfl]
      refine .inl ⟨rfl, ⟨a2, rfl⟩, ?_, a5, fun _ => hl⟩
      show appN D1.on D1.wait (fun _ => true) D1.wait.length = _
      rw [a3, a4, hlen, appN_all _ _ _ (Nat.le_refl _), List.take_length]
    | some n =>
      cases n with
      | zero =>
        right
        have hD : D.left ≠ none := fun h => by rw [a6 h] at hl; cases hl
        refine ⟨hD, ?_⟩
        refine ⟨rfl, rfl, rfl, rfl, rfl, ?_⟩
        show Mix D.on _ (appN D1.on D1.wait (keepB D1.keep) D1.wait.length)
        rw [a3, a4, hlen]
        exact appN_mix D.on ws _ _ (Nat.le_refl _)
      | succ n =>
        rw [if_pos rfl]
        refine .inl ⟨rfl, ⟨a2, rfl⟩, ?_, a5, fun h => by rw [a6 h] at hl; cases hl⟩
        show appN D1.on D1.wait (fun _ => true) D1.wait.length = _
        rw [a3, a4, hlen, appN_all _ _ _ (Nat.le_refl _), List.take_length]
  · rw [if_neg (by rw [b1]; decide)]
    exact .inr ⟨b0, b1, b2, b3, b4, b5, b6⟩
theorem cur_rest {D : Dsk} (h : D.wait = []) (i : Nat) : curF D i = D.on.getD i [] := by
  unfold curF
  rw [h]
  rfl
theorem setAll_get : ∀ {ws : List (Nat × Bys)} {on : List Bys} {i : Nat}, (∀ p ∈ ws, p.1 ≠ i) → (setAll on ws)[i]? = on[i]?
  | [], _, _, _ => rfl
  | p :: l, on, i, h => by
    rw [setAll, setAll_get (fun q hq => h q (.tail _ hq)), List.getElem?_set_ne (h p (.head _))]
end Go.Proofs.YtplhamichcnmmaaGreatDoor

namespace Go.Proofs.YtplhamichcnmmaaGreatDoor
set_option maxRecDepth 100000
def shtAt (D : Dsk) (n i : Nat) : Bool := shtOk (curF D (2 + i)) && decide (placeF (shtT (curF D (2 + i))).seq n = 2 + i)
theorem insS_lookup (B : SRows) (h : Nat) (s : Sht) (k : Nat) : (insS B h s).lookup k = if k = h then some s else B.lookup k := by
  unfold insS
  split
  · rename_i hs
    have : ∀ L : SRows, (L.map fun p => if p.1 = h then (h, s) else p).lookup k = if k = h then (L.lookup k).map (fun _ => s) else L.lookup k := by
      intro L
      induction L with
      | nil => simp
      | cons p L ih =>
        obtain ⟨q, x⟩ := p
        rw [List.map_cons]
        by_cases hq : q = h
        · subst hq
          rw [if_pos rfl, List.lookup_cons, List.lookup_cons]
          by_cases hk : k = q
          · subst hk; simp
          · have : (k == q) = false := by simpa using hk
            rw [this]
            simp only [if_neg hk] at ih ⊢
            exact ih
        · rw [if_neg hq, List.lookup_cons, List.lookup_cons, ih]
          by_cases hk : k = q
          · subst hk
            simp [hq]
          · have : (k == q) = false := by simpa using hk
            rw [this]
    rw [this]
    by_cases hk : k = h
    · subst hk
      rw [if_pos rfl, if_pos rfl]
      cases hb : B.lookup k with
      | none => rw [hb] at hs; cases hs
      | some x => rfl
    · rw [if_neg hk, if_neg hk]
  · rename_i hs
    have hs' : B.lookup h = none := by
      cases hb : B.lookup h with
      | none => rfl
      | some x => rw [hb] at hs; exact absurd rfl hs
    by_cases hk : k = h
    · subst hk
      rw [if_pos rfl, List.lookup_append, hs']
      simp
    · rw [if_neg hk, List.lookup_append]
      have : ([(h, s)] : SRows).lookup k = none := by
        rw [List.lookup_cons, show (k == h) = false by simpa using hk]; rfl
      rw [this]
      cases B.lookup k <;> rfl
theorem read_lookup (D : Dsk) (n : Nat) (q : Nat) : ∀ i, (readSN D n i).lookup q = if q % n < i ∧ shtAt D n (q % n) = true ∧ (shtT (curF D (placeF q n))).seq = q then some (shtT (curF D (placeF q n))) else none
  | 0 => by
    rw [if_neg (by omega)]
    rfl
  | i + 1 => by
    have ih := read_lookup D n q i
    rw [readSN]
    by_cases hs : shtAt D n i = true
    · have hs' := hs
      unfold shtAt at hs'
      rw [hs', if_pos rfl, insS_lookup, ih]
      simp only [Bool.and_eq_true, decide_eq_true_eq] at hs'
      have hp := hs'.2
      by_cases hq : q = (shtT (curF D (2 + i))).seq
      · have hqi : q % n = i := by rw [← hq] at hp; unfold placeF at hp; omega
        rw [if_pos hq, if_pos]
        · unfold placeF; rw [hqi]
        · refine ⟨by omega, by rw [hqi]; exact hs, ?_⟩
          unfold placeF; rw [hqi]; exact hq.symm
      · rw [if_neg hq]
        by_cases hqi : q % n = i
        · rw [if_neg (by omega), if_neg]
          rintro ⟨_, _, h3⟩
          unfold placeF at h3
          rw [hqi] at h3
          exact hq h3.symm
        · by_cases hc : q % n < i ∧ shtAt D n (q % n) = true ∧ (shtT (curF D (placeF q n))).seq = q
          · rw [if_pos hc, if_pos ⟨by omega, hc.2⟩]
          · rw [if_neg hc, if_neg (fun h => hc ⟨by omega, h.2⟩)]
    · have hs' : (shtOk (curF D (2 + i)) && decide (placeF (shtT (curF D (2 + i))).seq n = 2 + i)) = false := by
        rw [← Bool.not_eq_true]; exact hs
      rw [hs', if_neg (by decide), ih]
      by_cases hqi : q % n = i
      · rw [if_neg (by omega), if_neg (by rw [hqi]; exact fun h => hs h.2.1)]
      · by_cases hc : q % n < i ∧ shtAt D n (q % n) = true ∧ (shtT (curF D (placeF q n))).seq = q
        · rw [if_pos hc, if_pos ⟨by omega, hc.2⟩]
        · rw [if_neg hc, if_neg (fun h => hc ⟨by omega, h.2⟩)]
theorem insS_mem {B : SRows} {h : Nat} {s : Sht} {p : Nat × Sht} (hp : p ∈ insS B h s) : p = (h, s) ∨ p ∈ B := by
  unfold insS at hp
  split at hp
  · obtain ⟨q, hq, rfl⟩ := List.mem_map.1 hp
    split
    · exact .inl rfl
    · exact .inr hq
  · rcases List.mem_append.1 hp with hp | hp
    · exact .inr hp
    · exact .inl (List.mem_singleton.1 hp)
theorem read_mem (D : Dsk) (n : Nat) : ∀ i, ∀ p ∈ readSN D n i, ∃ j, j < i ∧ shtAt D n j = true ∧ p = ((shtT (curF D (2 + j))).seq, shtT (curF D (2 + j)))
  | 0, _, h => nomatch h
  | i + 1, p, h => by
    rw [readSN] at h
    by_cases hs : shtAt D n i = true
    · have hs' := hs
      unfold shtAt at hs'
      rw [hs', if_pos rfl] at h
      rcases insS_mem h with rfl | h
      · exact ⟨i, by omega, hs, rfl⟩
      · obtain ⟨j, h1, h2⟩ := read_mem D n i p h
        exact ⟨j, by omega, h2⟩
    · have hs' : (shtOk (curF D (2 + i)) && decide (placeF (shtT (curF D (2 + i))).seq n = 2 + i)) = false := by
        rw [← Bool.not_eq_true]; exact hs
      rw [hs', if_neg (by decide)] at h
      obtain ⟨j, h1, h2⟩ := read_mem D n i p h
      exact ⟨j, by omega, h2⟩
theorem read_piece {D : Dsk} (hw : D.wait = []) {n : Nat} (hn : 0 < n) {s : Sht} (hq : s.seq < 18446744073709551616) (ht : s.text.length ≤ 497) (h : D.on[placeF s.seq n]? = some (shtP s)) : (readSN D n n).lookup s.seq = some s := by
  obtain ⟨h1, h2⟩ := sht_ok hq ht
  have hc : curF D (placeF s.seq n) = shtP s := by rw [cur_rest hw, List.getD_eq_getElem?_getD, h]; rfl
  have hm := Nat.mod_lt s.seq hn
  rw [read_lookup, hc, h2, if_pos]
  refine ⟨hm, ?_, rfl⟩
  unfold shtAt
  rw [show 2 + s.seq % n = placeF s.seq n from rfl, hc, h1, h2]
  simp
theorem read_none {D : Dsk} {n q : Nat} (h : shtAt D n (q % n) = true → (shtT (curF D (placeF q n))).seq ≠ q) : (readSN D n n).lookup q = none := by
  rw [read_lookup, if_neg]
  rintro ⟨_, h2, h3⟩
  exact h h2 h3
theorem nextF_bounds {D : Dsk} {n first lo hi : Nat} (hf : first ≤ hi) (hhi : hi < 18446744073709551616) (hl : lo ≤ first ∨ ∃ s, (readSN D n n).lookup (lo - 1) = some s) (hb : ∀ i, i < n → shtAt D n i = true → (shtT (curF D (2 + i))).seq < hi) :
    lo ≤ nextF (readN D n n) first ∧ first ≤ nextF (readN D n n) first ∧ nextF (readN D n n) first ≤ hi ∧ ∀ i, i < n → shtAt D n i = true → (shtT (curF D (2 + i))).seq < nextF (readN D n n) first := by
  have hrows : ∀ p ∈ readN D n n, p.1 < hi := by
    intro p hp
    rw [← toN_read] at hp
    obtain ⟨q, hq, rfl⟩ := List.mem_map.1 hp
    obtain ⟨j, h1, h2, rfl⟩ := read_mem D n n q hq
    exact hb j h1 h2
  have hle := (nextF_le (readN D n n) first (nextF (readN D n n) first)).1 (Nat.le_refl _)
  have hrow : ∀ q s, (readSN D n n).lookup q = some s → q < nextF (readN D n n) first := by
    intro q s hs
    have hm : (q, Value.agg (shtA s)) ∈ readN D n n := by
      rw [← toN_read]
      exact List.mem_map.2 ⟨(q, s), lookup_memS hs, rfl⟩
    have h1 := hle.2 _ hm
    have h2 := hrows _ hm
    simp only at h1 h2
    rw [nxt_add (by omega)] at h1
    omega
  refine ⟨?_, hle.1, (nextF_le _ _ _).2 ⟨hf, fun p hp => ?_⟩, fun i hi2 hs => ?_⟩
  · rcases hl with h | ⟨s, hs⟩
    · omega
    · have := hrow _ s hs
      omega
  · have := hrows p hp
    rw [nxt_add (by omega)]
    omega
  · have hs2 := hs
    unfold shtAt at hs2
    simp only [Bool.and_eq_true, decide_eq_true_eq] at hs2
    have hp := hs2.2
    generalize hqq : (shtT (curF D (2 + i))).seq = q at hp ⊢
    have hqi : q % n = i := by unfold placeF at hp; omega
    refine hrow q (shtT (curF D (2 + i))) ?_
    rw [read_lookup, hp, if_pos ⟨by omega, by rw [hqi]; exact hs, hqq⟩]
end Go.Proofs.YtplhamichcnmmaaGreatDoor
