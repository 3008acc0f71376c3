/- The plain law of the log: the writes of a trim and of a commit, done, or cut off. -/
/- The plain law of the store: what a store in memory and its disk agree on; Open. -/
import Derived.Test.YtplhamichcnmmaaGreatDoorHc34
namespace Go.Proofs.YtplhamichcnmmaaGreatDoor
set_option maxRecDepth 100000
structure Died (D D' : Dsk) : Prop where
  left : D.left ≠ none
  dead : D'.dead = true
  wait : D'.wait = []
  left' : D'.left = none
  keep : D'.keep = []
structure Lives (D D' : Dsk) : Prop where
  rest : D'.Rest
  keep : D'.keep = D.keep
  left : D.left = none → D'.left = none
theorem bat2 {D : Dsk} (hr : D.Rest) {ws : List (Nat × Bys)} (hw : wsOk D ws) : ((batF D ws).1 = 0 ∧ Lives D (batF D ws).2 ∧ (batF D ws).2.on = setAll D.on ws) ∨ ((batF D ws).1 = 4 ∧ Died D (batF D ws).2 ∧ Mix D.on ws (batF D ws).2.on) := by
  rcases bat_cases hr hw with ⟨a, b, c, d, e⟩ | ⟨a, b, c, d, e, f, g⟩
  · exact .inl ⟨a, ⟨b, d, e⟩, c⟩
  · exact .inr ⟨b, ⟨a, c, d, e, f⟩, g⟩
theorem same_of {D D' : Dsk} {n : Nat} (hw : D.wait = []) (hw' : D'.wait = []) (h : ∀ i, i < n → D'.on[2 + i]? = D.on[2 + i]?) : SameLog D D' n := fun i hi => by
  rw [cur_rest hw, cur_rest hw', List.getD_eq_getElem?_getD, List.getD_eq_getElem?_getD, h i hi]
theorem trim_bat {D : Dsk} {g : Lg} {tx : List Bys} {hi : Nat} (hr : D.Rest) (hlen : 2 + g.h.secs ≤ D.on.length) (L : LogR D g.h g.at_ tx hi) (hg1 : g.h.gen + 1 < 18446744073709551616) (hq : g.next < 18446744073709551616) (hsq : ∀ i, i < g.h.secs → shtAt D g.h.secs i = true → (shtT (curF D (2 + i))).seq < g.next) :
    ((batF D [(otherF g.at_, hdP (trimH g))]).1 = 0 ∧ Lives D (batF D [(otherF g.at_, hdP (trimH g))]).2 ∧ LogI (batF D [(otherF g.at_, hdP (trimH g))]).2 { g with h := trimH g, at_ := otherF g.at_, used := 0, dead := false } [] ∧ (∀ i, 2 ≤ i → (batF D [(otherF g.at_, hdP (trimH g))]).2.on[i]? = D.on[i]?) ∧ (batF D [(otherF g.at_, hdP (trimH g))]).2.on.length = D.on.length) ∨
    ((batF D [(otherF g.at_, hdP (trimH g))]).1 = 4 ∧ Died D (batF D [(otherF g.at_, hdP (trimH g))]).2 ∧ (LogR (batF D [(otherF g.at_, hdP (trimH g))]).2 g.h g.at_ tx hi ∨ LogR (batF D [(otherF g.at_, hdP (trimH g))]).2 (trimH g) (1 - g.at_) [] g.next) ∧ (∀ i, 2 ≤ i → (batF D [(otherF g.at_, hdP (trimH g))]).2.on[i]? = D.on[i]?) ∧ (batF D [(otherF g.at_, hdP (trimH g))]).2.on.length = D.on.length) := by
  obtain ⟨o1, o2, o3, o4⟩ := other01 L.c01
  have hws : wsOk D [(otherF g.at_, hdP (trimH g))] := fun p hp => by
    rw [List.mem_singleton] at hp
    subst hp
    exact ⟨by show otherF g.at_ < _; rw [o1]; omega, hdP_len L.hok.note⟩
  rw [o1] at hws ⊢
  rcases bat2 hr hws with ⟨e, hl, hon⟩ | ⟨e, hd, hm⟩
  · left
    generalize batF D [(1 - g.at_, hdP (trimH g))] = r at e hl hon ⊢
    have hon : r.2.on = D.on.set (1 - g.at_) (hdP (trimH g)) := hon
    have h2 : ∀ i, 2 ≤ i → r.2.on[i]? = D.on[i]? := fun i hi => by rw [hon, List.getElem?_set_ne (by omega)]
    have hT := trim_new (D' := r.2) hr.wait hl.rest.wait L hg1 hq hsq (by rw [hon, List.getElem?_set_self (by omega)]) (by rw [hon, List.getElem?_set_ne o4]) (same_of hr.wait hl.rest.wait fun i _ => h2 (2 + i) (by omega))
    rw [o1] at hT
    exact ⟨e, hl, hT, h2, by rw [hon, List.length_set]⟩
  · right
    generalize batF D [(1 - g.at_, hdP (trimH g))] = r at e hd hm ⊢
    have hlen' := hm.1
    have h1 : ∀ i, i ≠ 1 - g.at_ → r.2.on[i]? = D.on[i]? := fun i hi => by
      by_cases hil : i < D.on.length
      · rcases hm.2 i hil with h | ⟨s, hs, -⟩
        · exact h
        · rw [List.mem_singleton] at hs
          cases hs
          exact absurd rfl hi
      · rw [List.getElem?_eq_none (by omega), List.getElem?_eq_none (by omega)]
    have h2 : ∀ i, 2 ≤ i → r.2.on[i]? = D.on[i]? := fun i hi => h1 i (by omega)
    have hs := same_of (n := g.h.secs) hr.wait hd.wait fun i _ => h2 (2 + i) (by omega)
    refine ⟨e, hd, ?_, h2, hlen'⟩
    rcases hm.2 (1 - g.at_) (by omega) with h | ⟨s, hs', h⟩
    · refine .inl (L.ext (fun i hi => ?_) hs)
      by_cases hi2 : i = 1 - g.at_
      · rw [hi2, h]
      · rw [h1 i hi2]
    · rw [List.mem_singleton] at hs'
      cases hs'
      have hT := trim_new (D' := r.2) hr.wait hd.wait L hg1 hq hsq h (h1 _ (Ne.symm o4)) hs
      rw [o1] at hT
      exact .inr (hT.rec' hq)
/-! ### A commit's sheets -/
theorem place_ne {a b n : Nat} (h1 : a < b) (h2 : b - a < n) : placeF a n ≠ placeF b n := by
  intro h
  unfold placeF at h
  have h3 : (b - a) % n = 0 := by
    have h4 : b % n = a % n := by omega
    exact Nat.sub_mod_eq_zero_of_mod_eq h4
  rw [Nat.mod_eq_of_lt h2] at h3
  omega
theorem HasT.mono {B B' : SRows} : ∀ {ts : List Bys} {q : Nat}, HasT B q ts → (∀ k, q ≤ k → k < endF q ts → B'.lookup k = B.lookup k) → HasT B' q ts
  | [], _, _, _ => trivial
  | t :: ts, q, h, he => by
    have h1 := endF_le ts (q + needF t.length)
    refine ⟨fun j hj => ?_, HasT.mono h.2 fun k hk1 hk2 => he k (by omega) hk2⟩
    rw [he (q + j) (by omega) (by rw [endF]; omega)]
    exact h.1 j hj
theorem look_same {D D' : Dsk} {n k : Nat} (h : curF D (placeF k n) = curF D' (placeF k n)) : (readSN D' n n).lookup k = (readSN D n n).lookup k := by
  rw [read_lookup, read_lookup]
  unfold shtAt
  have h' : curF D (2 + k % n) = curF D' (2 + k % n) := h
  rw [h', show placeF k n = 2 + k % n from rfl, h']
theorem wsC_mem {g : Lg} {t : Bys} {p : Nat × Bys} (h : p ∈ wsC g t) : ∃ j, j < needF t.length ∧ p = (placeF (g.next + j) g.h.secs, shtP (pcS g.next t j)) := by
  unfold wsC pcsL at h
  rw [List.map_map] at h
  obtain ⟨j, hj, rfl⟩ := List.mem_map.1 h
  exact ⟨j, List.mem_range.1 hj, rfl⟩
theorem wsC_in {g : Lg} {t : Bys} {j : Nat} (hj : j < needF t.length) : (placeF (g.next + j) g.h.secs, shtP (pcS g.next t j)) ∈ wsC g t := by
  unfold wsC pcsL
  rw [List.map_map]
  exact List.mem_map.2 ⟨j, List.mem_range.2 hj, rfl⟩
structure Mid (D D' : Dsk) (g : Lg) (tx : List Bys) (t : Bys) : Prop where
  low : ∀ i, i < 2 → D'.on[i]? = D.on[i]?
  high : ∀ i, 2 + g.h.secs ≤ i → D'.on[i]? = D.on[i]?
  sheets : ∀ i, i < g.h.secs → shtAt D' g.h.secs i = true → (shtT (curF D' (2 + i))).seq < g.next + needF t.length ∧ (shtT (curF D' (2 + i))).text ≠ []
  has : HasT (readSN D' g.h.secs g.h.secs) g.h.first tx
  piece : ∀ j, j < needF t.length → (readSN D' g.h.secs g.h.secs).lookup (g.next + j) = some (pcS g.next t j) ∨ (readSN D' g.h.secs g.h.secs).lookup (g.next + j) = none
theorem mid_of {D D' : Dsk} {g : Lg} {tx : List Bys} {t : Bys} (hw : D.wait = []) (hw' : D'.wait = []) (L : LogI D g tx) (hlen : 2 + g.h.secs ≤ D.on.length) (ht : t ≠ []) (hroom : g.used + needF t.length ≤ g.h.secs) (hnx : g.next + needF t.length < 18446744073709551616) (hm : Mix D.on (wsC g t) D'.on) : Mid D D' g tx t := by
  have hs0 := L.secs
  have hpl : ∀ j, placeF (g.next + j) g.h.secs < 2 + g.h.secs ∧ 2 ≤ placeF (g.next + j) g.h.secs := fun j => by
    have := Nat.mod_lt (g.next + j) hs0
    unfold placeF
    omega
  have hout : ∀ i, (∀ j, j < needF t.length → i ≠ placeF (g.next + j) g.h.secs) → D'.on[i]? = D.on[i]? := fun i hi => by
    by_cases hil : i < D.on.length
    · rcases hm.2 i hil with h | ⟨s, hs, -⟩
      · exact h
      · obtain ⟨j, hj, he⟩ := wsC_mem hs
        exact absurd (congrArg Prod.fst he) (hi j hj)
    · rw [List.getElem?_eq_none (by have := hm.1; omega), List.getElem?_eq_none (by omega)]
  have hcur : ∀ i, D'.on[i]? = D.on[i]? → curF D i = curF D' i := fun i h => by
    rw [cur_rest hw, cur_rest hw', List.getD_eq_getElem?_getD, List.getD_eq_getElem?_getD, h]
  refine ⟨fun i hi => hout i fun j hj => ?_, fun i hi => hout i fun j hj => ?_, fun i hi h3 => ?_, L.has.mono fun k hk1 hk2 => ?_, fun j hj => ?_⟩
  · have := (hpl j).2; omega
  · have := (hpl j).1; omega
  · rcases hm.2 (2 + i) (by omega) with h | ⟨s, hs, h⟩
    · have hc := hcur _ h
      have h3' : shtAt D g.h.secs i = true := by unfold shtAt at h3 ⊢; rw [hc]; exact h3
      have := L.sheets i hi h3'
      rw [← hc]
      exact ⟨Nat.lt_of_lt_of_le this.1 (Nat.le_add_right _ _), this.2⟩
    · obtain ⟨j, hj, he⟩ := wsC_mem hs
      have hs2 : s = shtP (pcS g.next t j) := congrArg Prod.snd he
      have hc : curF D' (2 + i) = shtP (pcS g.next t j) := by rw [Dsk.cur hw' h, hs2]
      have hso := sht_ok (s := pcS g.next t j) (by show g.next + j < _; omega) (pcS_len _ _ _)
      rw [hc, hso.2]
      exact ⟨by show g.next + j < _; omega, pcS_ne ht hj⟩
  · refine look_same (hcur _ (hout _ fun j hj => ?_))
    have hu := L.used
    have hx := L.next
    exact place_ne (by omega) (by omega)
  · rcases hm.2 (placeF (g.next + j) g.h.secs) (by have := (hpl j).1; omega) with h | ⟨s, hs, h⟩
    · right
      rw [look_same (hcur _ h)]
      exact seq_none hs0 (fun i hi hs => (L.sheets i hi hs).1) _ (Nat.le_add_right _ _)
    · left
      obtain ⟨j', hj', he⟩ := wsC_mem hs
      have hp : placeF (g.next + j) g.h.secs = placeF (g.next + j') g.h.secs := congrArg Prod.fst he
      have hjj : j = j' := by
        rcases Nat.lt_trichotomy j j' with hlt | h | hlt
        · exact absurd hp (place_ne (by omega) (by omega))
        · exact h
        · exact absurd hp.symm (place_ne (by omega) (by omega))
      subst hjj
      have hs2 : s = shtP (pcS g.next t j) := congrArg Prod.snd he
      rw [hs2] at h
      exact read_piece (s := pcS g.next t j) hw' hs0 (by show g.next + j < _; omega) (pcS_len _ _ _) h
theorem Mid.back {D D' : Dsk} {g : Lg} {tx : List Bys} {t : Bys} (L : LogI D g tx) (hnx : g.next + needF t.length < 18446744073709551616) (M : Mid D D' g tx t) : LogR D' g.h g.at_ tx (g.next + needF t.length) ∨ LogR D' g.h g.at_ (tx ++ [t]) (g.next + needF t.length) := by
  have hhead : D'.on[g.at_]? = some (hdP g.h) := by rw [M.low _ (by have := L.c01; omega)]; exact L.head
  have hother : hdOk (D'.on.getD (1 - g.at_) []) = true → (hdT (D'.on.getD (1 - g.at_) [])).gen < g.h.gen := by
    have e : D'.on.getD (1 - g.at_) [] = D.on.getD (1 - g.at_) [] := by rw [List.getD_eq_getElem?_getD, List.getD_eq_getElem?_getD, M.low (1 - g.at_) (by omega)]
    rw [e]; exact L.other
  have hfi : g.h.first ≤ g.next + needF t.length := by have := L.used; omega
  by_cases hall : ∀ j, j < needF t.length → (readSN D' g.h.secs g.h.secs).lookup (g.next + j) = some (pcS g.next t j)
  · right
    refine ⟨L.c01, L.hok, L.secs, hhead, hother, M.sheets, ?_, hfi⟩
    have hend : endF g.h.first (tx ++ [t]) = g.next + needF t.length := by rw [endF_app, ← L.next]
    refine texts_read (by rw [hend]; exact hnx) (M.has.app (by rw [← L.next]; exact hall)) (stop_none ?_)
    rw [hend]
    exact seq_none L.secs (fun i hi hs => (M.sheets i hi hs).1) _ (Nat.le_refl _)
  · left
    refine ⟨L.c01, L.hok, L.secs, hhead, hother, M.sheets, ?_, hfi⟩
    have hex : ∃ k, k < needF t.length ∧ (readSN D' g.h.secs g.h.secs).lookup (g.next + k) = none ∧ ∀ j, j < k → (readSN D' g.h.secs g.h.secs).lookup (g.next + j) = some (pcS g.next t j) := by
      have : ∀ m, m ≤ needF t.length → (∀ j, j < m → (readSN D' g.h.secs g.h.secs).lookup (g.next + j) = some (pcS g.next t j)) ∨ ∃ k, k < m ∧ (readSN D' g.h.secs g.h.secs).lookup (g.next + k) = none ∧ ∀ j, j < k → (readSN D' g.h.secs g.h.secs).lookup (g.next + j) = some (pcS g.next t j) := by
        intro m
        induction m with
        | zero => exact fun _ => .inl fun j hj => absurd hj (Nat.not_lt_zero _)
        | succ m ih =>
          intro hm
          rcases ih (by omega) with h | ⟨k, h1, h2, h3⟩
          · rcases M.piece m hm with h4 | h4
            · exact .inl fun j hj => by
                rcases Nat.lt_succ_iff_lt_or_eq.1 hj with h5 | rfl
                · exact h j h5
                · exact h4
            · exact .inr ⟨m, Nat.lt_succ_self _, h4, h⟩
          · exact .inr ⟨k, by omega, h2, h3⟩
      rcases this _ (Nat.le_refl _) with h | h
      · exact absurd h hall
      · exact h
    obtain ⟨k, hk1, hk2, hk3⟩ := hex
    refine texts_read (by rw [← L.next]; omega) M.has ?_
    rw [← L.next]
    exact stop_part hnx hk1 hk3 hk2
theorem Mid.done {D D' : Dsk} {g : Lg} {tx : List Bys} {t : Bys} (L : LogI D g tx) (hroom : g.used + needF t.length ≤ g.h.secs) (M : Mid D D' g tx t) (hall : ∀ j, j < needF t.length → (readSN D' g.h.secs g.h.secs).lookup (g.next + j) = some (pcS g.next t j)) :
    LogI D' { g with next := g.next + needF t.length, used := g.used + needF t.length, dead := false } (tx ++ [t]) where
  c01 := L.c01
  hok := L.hok
  secs := L.secs
  head := by show D'.on[g.at_]? = some (hdP g.h); rw [M.low g.at_ (by have := L.c01; omega)]; exact L.head
  other := by
    have e : D'.on.getD (1 - g.at_) [] = D.on.getD (1 - g.at_) [] := by rw [List.getD_eq_getElem?_getD, List.getD_eq_getElem?_getD, M.low (1 - g.at_) (by omega)]
    show hdOk (D'.on.getD (1 - g.at_) []) = true → _
    rw [e]; exact L.other
  sheets := M.sheets
  has := M.has.app (by rw [← L.next]; exact hall)
  next := by
    show g.next + _ = endF g.h.first (tx ++ [t])
    rw [endF_app, ← L.next]
  used := by
    show g.h.first + (g.used + _) = g.next + _
    have := L.used; omega
  usedle := hroom
  dead := rfl
theorem commit_bat {D : Dsk} {g : Lg} {tx : List Bys} {t : Bys} (hr : D.Rest) (L : LogI D g tx) (hlen : 2 + g.h.secs ≤ D.on.length) (ht : t ≠ []) (hroom : g.used + needF t.length ≤ g.h.secs) (hnx : g.next + needF t.length < 18446744073709551616) :
    ((batF D (wsC g t)).1 = 0 ∧ Lives D (batF D (wsC g t)).2 ∧ LogI (batF D (wsC g t)).2 { g with next := g.next + needF t.length, used := g.used + needF t.length, dead := false } (tx ++ [t]) ∧ (∀ i, 2 + g.h.secs ≤ i → (batF D (wsC g t)).2.on[i]? = D.on[i]?) ∧ (batF D (wsC g t)).2.on.length = D.on.length) ∨
    ((batF D (wsC g t)).1 = 4 ∧ Died D (batF D (wsC g t)).2 ∧ (LogR (batF D (wsC g t)).2 g.h g.at_ tx (g.next + needF t.length) ∨ LogR (batF D (wsC g t)).2 g.h g.at_ (tx ++ [t]) (g.next + needF t.length)) ∧ (∀ i, 2 + g.h.secs ≤ i → (batF D (wsC g t)).2.on[i]? = D.on[i]?) ∧ (batF D (wsC g t)).2.on.length = D.on.length) := by
  have hs0 := L.secs
  have hws : wsOk D (wsC g t) := fun p hp => by
    obtain ⟨j, hj, rfl⟩ := wsC_mem hp
    refine ⟨?_, shtP_len (pcS_len _ _ _)⟩
    have := Nat.mod_lt (g.next + j) hs0
    show placeF (g.next + j) g.h.secs < _
    unfold placeF
    omega
  rcases bat2 hr hws with ⟨e, hl, hon⟩ | ⟨e, hd, hm⟩
  · left
    generalize batF D (wsC g t) = r at e hl hon ⊢
    have hm : Mix D.on (wsC g t) r.2.on := by rw [hon]; exact Mix.all _ _
    have M := mid_of hr.wait hl.rest.wait L hlen ht hroom hnx hm
    refine ⟨e, hl, M.done L hroom fun j hj => ?_, M.high, hm.1⟩
    have hpl : placeF (g.next + j) g.h.secs < D.on.length := (hws _ (wsC_in hj)).1
    refine read_piece (s := pcS g.next t j) hl.rest.wait hs0 (by show g.next + j < _; omega) (pcS_len _ _ _) ?_
    show r.2.on[placeF (g.next + j) g.h.secs]? = _
    -- the writes' places are apart, so the last one at a place is the only one
    have hlast : ∀ (ws : List (Nat × Bys)) (on : List Bys) (a : Nat) (s : Bys), a < on.length → (a, s) ∈ ws → (∀ p ∈ ws, p.1 = a → p.2 = s) → (setAll on ws)[a]? = some s := by
      intro ws
      induction ws with
      | nil => intro on a s _ h; cases h
      | cons p l ih =>
        intro on a s ha hin hall
        rw [setAll]
        by_cases hin2 : (a, s) ∈ l
        · exact ih _ a s (by rw [List.length_set]; exact ha) hin2 fun q hq => hall q (.tail _ hq)
        · rcases List.mem_cons.1 hin with rfl | h
          · rw [setAll_get fun q hq he => hin2 (by have := hall q (.tail _ hq) he; rw [← he, ← this]; exact hq)]
            exact List.getElem?_set_self ha
          · exact absurd h hin2
    rw [hon]
    refine hlast _ _ _ _ hpl (wsC_in hj) fun p hp he => ?_
    obtain ⟨j', hj', rfl⟩ := wsC_mem hp
    have hjj : j' = j := by
      have he : placeF (g.next + j') g.h.secs = placeF (g.next + j) g.h.secs := he
      rcases Nat.lt_trichotomy j' j with hlt | h | hlt
      · exact absurd he (place_ne (by omega) (by omega))
      · exact h
      · exact absurd he.symm (place_ne (by omega) (by omega))
    rw [hjj]
  · right
    generalize batF D (wsC g t) = r at e hd hm ⊢
    have M := mid_of hr.wait hd.wait L hlen ht hroom hnx hm
    exact ⟨e, hd, M.back L hnx, M.high, hm.1⟩
end Go.Proofs.YtplhamichcnmmaaGreatDoor

namespace Go.Proofs.YtplhamichcnmmaaGreatDoor
set_option maxRecDepth 100000
structure TsOk (TS : List PR) (n : Nat) : Prop where
  each : ∀ R ∈ TS, R.Ok n ∧ R ≠ [] ∧ R.length ≤ 1024
  many : TS.length ≤ 512
structure RecI (D : Dsk) (n secs : Nat) (note : Bys) (V : List Bys) (B : Nat) (h : Hd) (c : Nat) (TS : List PR) : Prop where
  log : LogR D h c (TS.map textP) B
  hs : h.secs = secs
  hnote : h.note = beN 2 n ++ note
  gen : h.gen ≤ B
  ts : TsOk TS n
  rep : ∀ i, i < n → (lastT TS i).or D.on[2 + secs + i]? = V[i]?
structure Siz (D : Dsk) (n secs : Nat) (note : Bys) (V : List Bys) : Prop where
  n1 : 64 ≤ n
  n2 : n ≤ 1024
  s1 : 1 ≤ secs
  s2 : secs ≤ 512
  note : note.length ≤ 40
  room : 2 + secs + n ≤ D.on.length
  Vl : V.length = n
  Vs : ∀ p ∈ V, p.length = 512
  ok : D.Ok
structure StI (s : Pg) (D : Dsk) (n secs : Nat) (note : Bys) (V : List Bys) (B : Nat) (TS : List PR) : Prop where
  siz : Siz D n secs note V
  rest : D.Rest
  hn : s.n = n
  hnote : s.note = note
  hsecs : s.g.h.secs = secs
  hhnote : s.g.h.note = beN 2 n ++ note
  log : LogI D s.g (TS.map textP)
  ts : ∀ R ∈ TS, R.Ok n ∧ R ≠ [] ∧ R.length ≤ 1024
  dead : s.dead = false
  Kok : s.K.Ok n
  Kv : ∀ i b, s.K.lookup i = some b → V[i]? = some b
  Rk : ∀ i ∈ s.R, (s.K.lookup i).isSome = true ∧ (lastT TS i).isSome = true ∧ i < n
  Rn : s.R.Nodup
  pages : ∀ i, i < n → i ∉ s.R → D.on[2 + secs + i]? = V[i]?
  rep : ∀ i b, lastT TS i = some b → V[i]? = some b
  Cok : s.C.Ok n
  Cn : (s.C.map (·.1)).Nodup
  gen : s.g.h.gen ≤ B
  next : s.g.next ≤ B
theorem Siz.ext {D D' : Dsk} {n secs : Nat} {note : Bys} {V : List Bys} (h : Siz D n secs note V) (ho : D'.Ok) (hl : D'.on.length = D.on.length) : Siz D' n secs note V :=
  ⟨h.n1, h.n2, h.s1, h.s2, h.note, by rw [hl]; exact h.room, h.Vl, h.Vs, ho⟩
theorem textP_ne {R : PR} (h : R ≠ []) : textP R ≠ [] := by
  cases R with
  | nil => exact absurd rfl h
  | cons p R =>
    intro he
    have := congrArg List.length he
    rw [textP_cons, List.length_append, beN_length] at this
    simp at this
theorem LogI.many {D : Dsk} {g : Lg} {tx : List Bys} (L : LogI D g tx) : tx.length ≤ g.used := by
  have h1 := endF_len tx g.h.first
  have h2 := L.next
  have h3 := L.used
  omega
theorem StI.rec' {s : Pg} {D : Dsk} {n secs : Nat} {note : Bys} {V : List Bys} {B : Nat} {TS : List PR} (h : StI s D n secs note V B TS) (hB : B < 9223372036854775808) : RecI D n secs note V B s.g.h s.g.at_ TS where
  log := by
    have := h.log.rec' (by have := h.next; omega)
    exact ⟨this.c01, this.hok, this.secs, this.head, this.other, fun i hi hs => ⟨Nat.lt_of_lt_of_le (this.sheets i hi hs).1 h.next, (this.sheets i hi hs).2⟩, this.read, Nat.le_trans this.first h.next⟩
  hs := h.hsecs
  hnote := h.hhnote
  gen := h.gen
  ts := ⟨h.ts, by have h1 := h.log.many; have h2 := h.log.usedle; have h3 := h.siz.s2; rw [List.length_map] at h1; rw [h.hsecs] at h2; omega⟩
  rep := fun i hi => by
    cases hl : lastT TS i with
    | some b => exact (h.rep i b hl).symm
    | none =>
      have : i ∉ s.R := fun hr => by have := (h.Rk i hr).2.1; rw [hl] at this; cases this
      rw [← h.pages i hi this]; rfl
theorem opF_bat (D : Dsk) (g : Lg) (TS : List PR) : opF D g TS = if (batF D (wsO g.h.secs TS)).1 = 0 then ((batF (batF D (wsO g.h.secs TS)).2 [(otherF g.at_, hdP (trimH g))]).1, (batF (batF D (wsO g.h.secs TS)).2 [(otherF g.at_, hdP (trimH g))]).2, { trimG g (batF D (wsO g.h.secs TS)).2 with dead := decide ((batF (batF D (wsO g.h.secs TS)).2 [(otherF g.at_, hdP (trimH g))]).1 = 4) }) else ((batF D (wsO g.h.secs TS)).1, (batF D (wsO g.h.secs TS)).2, g) := by
  rw [← writeHF_bat]
  unfold opF ftF batF
  by_cases h : (wrsF D (wsO g.h.secs TS)).1 = 0
  · rw [if_pos h, if_pos h]
  · rw [if_neg h, if_neg h, if_neg h]
theorem shtOk_text {b : Bys} (h : shtOk b = true) : (shtT b).text.length ≤ 497 := by
  unfold shtT
  rw [h, if_pos rfl]
  unfold shtOk at h
  simp only [Bool.and_eq_true, decide_eq_true_eq] at h
  exact h.2.1
theorem RecI.pages {D D' : Dsk} {n secs : Nat} {note : Bys} {V : List Bys} {B : Nat} {h : Hd} {c : Nat} {TS : List PR} (R : RecI D n secs note V B h c TS) (hw : D.wait = []) (hw' : D'.wait = []) (hlow : ∀ i, i < 2 + secs → D'.on[i]? = D.on[i]?) (hp : ∀ i, i < n → lastT TS i = none → D'.on[2 + secs + i]? = D.on[2 + secs + i]?) : RecI D' n secs note V B h c TS where
  log := R.log.ext (fun i hi => (hlow i (by omega)).symm) (same_of hw hw' fun i hi => hlow (2 + i) (by have := R.hs; omega))
  hs := R.hs
  hnote := R.hnote
  gen := R.gen
  ts := R.ts
  rep := fun i hi => by
    rw [← R.rep i hi]
    cases hl : lastT TS i with
    | some b => rfl
    | none => rw [hp i hi hl]
theorem mix_out {on on' : List Bys} {ws : List (Nat × Bys)} (hm : Mix on ws on') {i : Nat} (h : ∀ p ∈ ws, p.1 ≠ i) : on'[i]? = on[i]? := by
  by_cases hi : i < on.length
  · rcases hm.2 i hi with h1 | ⟨s, hs, -⟩
    · exact h1
    · exact absurd rfl (h _ hs)
  · rw [List.getElem?_eq_none (by have := hm.1; omega), List.getElem?_eq_none (by omega)]
theorem bat_ok {D : Dsk} (h : D.Ok) (ws : List (Nat × Bys)) : (batF D ws).2.Ok := by
  unfold batF
  split
  · exact flushG_ok (wrsF_ok _ _ h)
  · exact wrsF_ok _ _ h
theorem open_step {D : Dsk} {n secs : Nat} {note : Bys} {V : List Bys} {B : Nat} {h : Hd} {c : Nat} {TS : List PR} (z : Siz D n secs note V) (hr : D.Rest) (hB : B + 1 < 9223372036854775808) (R : RecI D n secs note V B h c TS) :
    ((opF D (openG D h c) TS).1 = 0 ∧ Lives D (opF D (openG D h c) TS).2.1 ∧ (∀ s, Opd s (opF D (openG D h c) TS).2.1 (opF D (openG D h c) TS).2.2 n note → StI s (opF D (openG D h c) TS).2.1 n secs note V (B + 1) []) ∧ some (curF (opF D (openG D h c) TS).2.1 (2 + h.secs)) = V[0]?) ∨
    ((opF D (openG D h c) TS).1 = 4 ∧ Died D (opF D (openG D h c) TS).2.1 ∧ Siz (opF D (openG D h c) TS).2.1 n secs note V ∧ ∃ h' c' TS', RecI (opF D (openG D h c) TS).2.1 n secs note V (B + 1) h' c' TS') := by
  have hgs : (openG D h c).h = h := rfl
  have hsecs := R.hs
  have hroom := z.room
  have hTO : ∀ Q ∈ TS, Q.Ok n := fun Q hQ => (R.ts.each Q hQ).1
  have hws : wsOk D (wsO secs TS) := fun p hp => by
    obtain ⟨i, h1, -, Q, hQ, hl⟩ := wsO_mem hp
    have := img_ok (n := n) (A := []) (fun _ h => nomatch h) (hTO Q hQ) _ (lookup_memG hl)
    exact ⟨by rw [h1]; have := this.1; simp only at this; omega, this.2⟩
  have hout : ∀ i, i < 2 + secs → ∀ p ∈ wsO secs TS, p.1 ≠ i := fun i hi p hp => by
    obtain ⟨j, h1, -⟩ := wsO_mem hp
    omega
  have hun : ∀ i, lastT TS i = none → ∀ p ∈ wsO secs TS, p.1 ≠ 2 + secs + i := fun i hi p hp => by
    obtain ⟨j, h1, h2, -⟩ := wsO_mem hp
    intro he
    have : j = i := by omega
    rw [this, hi] at h2
    cases h2
  have hnx := nextF_bounds (D := D) (n := h.secs) (first := h.first) (lo := 0) (hi := B) R.log.first (by omega) (.inl (Nat.zero_le _)) fun i hi hs => (R.log.sheets i hi hs).1
  rw [opF_bat, show (openG D h c).h.secs = secs from hsecs]
  rcases bat2 hr hws with ⟨e, hl, hon⟩ | ⟨e, hd, hm⟩
  · rw [if_pos e]
    have hok1 := bat_ok z.ok (wsO secs TS)
    generalize batF D (wsO secs TS) = r at e hl hon hok1 ⊢
    have hlow : ∀ i, i < 2 + secs → r.2.on[i]? = D.on[i]? := fun i hi => by rw [hon]; exact setAll_get (hout i hi)
    have hlen : r.2.on.length = D.on.length := by rw [hon, setAll_len]
    have hpg : ∀ i, i < n → r.2.on[2 + secs + i]? = V[i]? := fun i hi => by
      rw [hon, wsO_at (by omega), R.rep i hi]
    have hsame : SameLog D r.2 h.secs := same_of hr.wait hl.rest.wait fun i hi => hlow (2 + i) (by omega)
    have L1 : LogR r.2 (openG D h c).h (openG D h c).at_ (TS.map textP) B := R.log.ext (fun i hi => (hlow i (by omega)).symm) hsame
    have hgn : (openG D h c).h.gen + 1 < 18446744073709551616 := by have := R.gen; show h.gen + 1 < _; omega
    have hq : (openG D h c).next < 18446744073709551616 := by have := hnx.2.2.1; show nextF _ _ < _; omega
    have hsq : ∀ i, i < (openG D h c).h.secs → shtAt r.2 (openG D h c).h.secs i = true → (shtT (curF r.2 (2 + i))).seq < (openG D h c).next := fun i hi hs => by
      have hi' : i < h.secs := hi
      rw [← hsame i hi']
      exact hnx.2.2.2 i hi' (by rw [hsame.at_ hi']; exact hs)
    have hroom1 : 2 + (openG D h c).h.secs ≤ r.2.on.length := by show 2 + h.secs ≤ _; omega
    have hok2 := bat_ok hok1 [(otherF (openG D h c).at_, hdP (trimH (openG D h c)))]
    rcases trim_bat hl.rest hroom1 L1 hgn hq hsq with ⟨e2, hl2, L2, h2, hlen2⟩ | ⟨e2, hd2, L2, h2, hlen2⟩
    · left
      have htg : ({ trimG (openG D h c) r.2 with dead := decide ((batF r.2 [(otherF (openG D h c).at_, hdP (trimH (openG D h c)))]).1 = 4) } : Lg) = { openG D h c with h := trimH (openG D h c), at_ := otherF (openG D h c).at_, used := 0, dead := false } := by
        unfold trimG
        rw [writeHF_bat, if_pos e2, e2]
        rfl
      rw [htg]
      generalize batF r.2 [(otherF (openG D h c).at_, hdP (trimH (openG D h c)))] = r2 at e2 hl2 L2 h2 hlen2 hok2 ⊢
      have hpg2 : ∀ i, i < n → r2.2.on[2 + secs + i]? = V[i]? := fun i hi => by rw [h2 _ (by omega), hpg i hi]
      refine ⟨e2, ⟨hl2.rest, hl2.keep.trans hl.keep, fun h => hl2.left (hl.left h)⟩, fun s O => ?_, ?_⟩
      · have hs0 : 0 < n := by have := z.n1; omega
        refine ⟨z.ext hok2 (by rw [hlen2, hlen]), hl2.rest, O.hn, O.hnote, by rw [O.hg]; exact hsecs, by rw [O.hg]; exact R.hnote, by rw [O.hg]; exact L2, (fun _ hh => (nomatch hh)), O.hdead, ?_, fun i b hb => ?_, by rw [O.hR]; exact fun _ hh => (nomatch hh), by rw [O.hR]; exact List.nodup_nil, fun i hi _ => hpg2 i hi, fun i b hb => (by cases hb), by rw [O.hC]; exact fun _ hh => (nomatch hh), by rw [O.hC]; exact List.nodup_nil, by rw [O.hg]; show (trimH (openG D h c)).gen ≤ _; rw [show (trimH (openG D h c)).gen = h.gen + 1 from Nat.mod_eq_of_lt hgn]; have := R.gen; omega, by rw [O.hg]; have := hnx.2.2.1; show nextF _ _ ≤ _; omega⟩
        · rw [O.hK]
          intro p hp
          rw [List.mem_singleton] at hp
          subst hp
          exact ⟨hs0, cur_len hok2 (by show 2 + h.secs < _; omega)⟩
        · rw [O.hK] at hb
          have hi0 : i = 0 ∧ curF r2.2 (2 + h.secs) = b := by
            rw [List.lookup_cons] at hb
            by_cases hi : i = 0
            · subst hi
              simp at hb
              exact ⟨rfl, hb⟩
            · rw [show (i == 0) = false by simpa using hi] at hb
              cases hb
          rw [hi0.1, ← hpg2 0 hs0, ← hi0.2, cur_rest hl2.rest.wait, List.getD_eq_getElem?_getD, hsecs, Nat.add_zero]
          rw [List.getElem?_eq_getElem (by omega)]
          rfl
      · rw [← hpg2 0 (by have := z.n1; omega), cur_rest hl2.rest.wait, List.getD_eq_getElem?_getD, hsecs, Nat.add_zero, List.getElem?_eq_getElem (by have := z.n1; omega)]
        rfl
    · right
      generalize batF r.2 [(otherF (openG D h c).at_, hdP (trimH (openG D h c)))] = r2 at e2 hd2 L2 h2 hlen2 hok2 ⊢
      have hpg2 : ∀ i, i < n → r2.2.on[2 + secs + i]? = V[i]? := fun i hi => by rw [h2 _ (by omega), hpg i hi]
      refine ⟨e2, ⟨fun h => hd2.left (hl.left h), hd2.dead, hd2.wait, hd2.left', hd2.keep⟩, z.ext hok2 (by rw [hlen2, hlen]), ?_⟩
      rcases L2 with L2 | L2
      · refine ⟨h, c, TS, ⟨⟨L2.c01, L2.hok, L2.secs, L2.head, L2.other, fun i hi hs => ⟨Nat.lt_of_lt_of_le (L2.sheets i hi hs).1 (by omega), (L2.sheets i hi hs).2⟩, L2.read, Nat.le_trans L2.first (by omega)⟩, hsecs, R.hnote, by have := R.gen; omega, R.ts, fun i hi => ?_⟩⟩
        rw [hpg2 i hi]
        cases hlt : lastT TS i with
        | none => rfl
        | some b =>
          have := R.rep i hi
          rw [hlt] at this
          exact this
      · refine ⟨_, _, [], ⟨⟨L2.c01, L2.hok, L2.secs, L2.head, L2.other, fun i hi hs => ⟨Nat.lt_of_lt_of_le (L2.sheets i hi hs).1 (by have := hnx.2.2.1; show nextF _ _ ≤ _; omega), (L2.sheets i hi hs).2⟩, L2.read, Nat.le_trans L2.first (by have := hnx.2.2.1; show nextF _ _ ≤ _; omega)⟩, hsecs, R.hnote, by rw [show (trimH (openG D h c)).gen = h.gen + 1 from Nat.mod_eq_of_lt hgn]; have := R.gen; omega, ⟨(fun _ hh => (nomatch hh)), by decide⟩, fun i hi => ?_⟩⟩
        rw [hpg2 i hi]; rfl
  · right
    rw [if_neg (by rw [e]; decide)]
    have hok1 := bat_ok z.ok (wsO secs TS)
    generalize batF D (wsO secs TS) = r at e hd hm hok1 ⊢
    refine ⟨e, hd, z.ext hok1 hm.1, h, c, TS, ?_⟩
    have R2 := R.pages (D' := r.2) hr.wait hd.wait (fun i hi => mix_out hm (hout i hi)) (fun i hi hlt => mix_out hm (hun i hlt))
    exact ⟨⟨R2.log.c01, R2.log.hok, R2.log.secs, R2.log.head, R2.log.other, fun i hi hs => ⟨Nat.lt_of_lt_of_le (R2.log.sheets i hi hs).1 (by omega), (R2.log.sheets i hi hs).2⟩, R2.log.read, Nat.le_trans R2.log.first (by omega)⟩, R2.hs, R2.hnote, by have := R2.gen; omega, R2.ts, R2.rep⟩
end Go.Proofs.YtplhamichcnmmaaGreatDoor
