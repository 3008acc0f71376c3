/- The plain law of the log: a trim, a qgb, whatever takes the power in their midst. -/
/- The plain law of the log: the writes of a trim and of a qgb, done, or cut off. -/
/- The plain law of the store: what a store in memory and its disk agree on; Open. -/
import Derived.Test.YtkkfifhaobjicaaGreatDoorHb32
namespace Go.Proofs.YtkkfifhaobjicaaGreatDoor
set_option maxRecDepth 100000
structure zwk (D : Dsk) (h : Hd) (c : Nat) (tx : List Bys) (hi : Nat) : Prop where
 c01 : c = 0 ∨ c = 1
 hok : h.Ok
 secs : 1 ≤ h.secs
 head : D.on[c]? = some (hdP h)
 other : zqm (D.on.getD (1 - c) []) = true → (hdT (D.on.getD (1 - c) [])).gen < h.gen
 sheets : ∀ i, i < h.secs → zd4 D h.secs i = true → (zf6 (zch D (2 + i))).seq < hi ∧ (zf6 (zch D (2 + i))).text ≠ []
 read : ztq D h = tx
 first : h.first ≤ hi
structure zv1 (D : Dsk) (g : Lg) (tx : List Bys) : Prop where
 c01 : g.at_ = 0 ∨ g.at_ = 1
 hok : g.h.Ok
 secs : 1 ≤ g.h.secs
 head : D.on[g.at_]? = some (hdP g.h)
 other : zqm (D.on.getD (1 - g.at_) []) = true → (hdT (D.on.getD (1 - g.at_) [])).gen < g.h.gen
 sheets : ∀ i, i < g.h.secs → zd4 D g.h.secs i = true → (zf6 (zch D (2 + i))).seq < g.next ∧ (zf6 (zch D (2 + i))).text ≠ []
 has : zwl (zbj D g.h.secs g.h.secs) g.h.first tx
 next : g.next = zkk g.h.first tx
 used : g.h.first + g.used = g.next
 usedle : g.used ≤ g.h.secs
 dead : g.dead = false
theorem Dsk.cur {D : Dsk} (h : D.wait = []) {i : Nat} {s : Bys} (hs : D.on[i]? = some s) : zch D i = s := by
 rw [zfh h, List.getD_eq_getElem?_getD, hs]; rfl
theorem zwk.look {D : Dsk} {h : Hd} {c : Nat} {tx : List Bys} {hi : Nat} (hw : D.wait = []) (L : zwk D h c tx hi) : zdb D 2 = (h, (c : Int)) := by
 obtain ⟨h1, h2⟩ := qnz L.hok
 have hc := Dsk.cur hw L.head
 refine qhz L.c01 (by rw [hc]; exact h1) (by rw [hc]; exact h2) fun h3 => ?_
 rw [zfh hw] at h3 ⊢
 exact L.other h3
theorem zt6 {D : Dsk} {n q : Nat} (hn : 0 < n) (h : ∀ i, i < n → zd4 D n i = true → (zf6 (zch D (2 + i))).seq < q) (k : Nat) (hk : q ≤ k) : (zbj D n n).lookup k = none := by
 refine qge fun hs he => ?_
 have := h (k % n) (Nat.mod_lt _ hn) hs
 rw [show 2 + k % n = zbh k n from rfl, he] at this
 omega
theorem zv1.rec' {D : Dsk} {g : Lg} {tx : List Bys} (L : zv1 D g tx) (hn : g.next < 18446744073709551616) : zwk D g.h g.at_ tx g.next where
 c01 := L.c01
 hok := L.hok
 secs := L.secs
 head := L.head
 other := L.other
 sheets := L.sheets
 read := by
  refine zlw (by rw [← L.next]; exact hn) L.has (zub ?_)
  rw [← L.next]
  exact zt6 L.secs (fun i hi hs => (L.sheets i hi hs).1) _ (Nat.le_refl _)
 first := by rw [L.next]; exact zph _ _
def zg4 (D D' : Dsk) (n : Nat) : Prop := ∀ i, i < n → zch D (2 + i) = zch D' (2 + i)
theorem zg4.read {D D' : Dsk} {n : Nat} (h : zg4 D D' n) : zbj D n n = zbj D' n n := zrv n h
theorem zg4.at_ {D D' : Dsk} {n i : Nat} (h : zg4 D D' n) (hi : i < n) : zd4 D n i = zd4 D' n i := by unfold zd4; rw [h i hi]
theorem zwk.ext {D D' : Dsk} {h : Hd} {c : Nat} {tx : List Bys} {hi : Nat} (L : zwk D h c tx hi) (h2 : ∀ i, i < 2 → D.on[i]? = D'.on[i]?) (hs : zg4 D D' h.secs) : zwk D' h c tx hi where
 c01 := L.c01
 hok := L.hok
 secs := L.secs
 head := by rw [← h2 c (by have := L.c01; omega)]; exact L.head
 other := by
  have e : D'.on.getD (1 - c) [] = D.on.getD (1 - c) [] := by rw [List.getD_eq_getElem?_getD, List.getD_eq_getElem?_getD, h2 (1 - c) (by omega)]
  rw [e]; exact L.other
 sheets := fun i hi h3 => by
  rw [← hs i hi]
  exact L.sheets i hi (by rw [hs.at_ hi]; exact h3)
 read := by
  have := L.read
  unfold ztq at this ⊢
  rw [← hs.read]; exact this
 first := L.first
theorem zv1.ext {D D' : Dsk} {g : Lg} {tx : List Bys} (L : zv1 D g tx) (h2 : ∀ i, i < 2 → D.on[i]? = D'.on[i]?) (hs : zg4 D D' g.h.secs) : zv1 D' g tx where
 c01 := L.c01
 hok := L.hok
 secs := L.secs
 head := by rw [← h2 _ (by have := L.c01; omega)]; exact L.head
 other := by
  have e : D'.on.getD (1 - g.at_) [] = D.on.getD (1 - g.at_) [] := by rw [List.getD_eq_getElem?_getD, List.getD_eq_getElem?_getD, h2 (1 - g.at_) (by omega)]
  rw [e]; exact L.other
 sheets := fun i hi h3 => by
  rw [← hs i hi]
  exact L.sheets i hi (by rw [hs.at_ hi]; exact h3)
 has := by rw [← hs.read]; exact L.has
 next := L.next
 used := L.used
 usedle := L.usedle
 dead := L.dead
theorem qdm {c : Nat} (h : c = 0 ∨ c = 1) : za3 (c : Int) = 1 - c ∧ (1 - c = 0 ∨ 1 - c = 1) ∧ 1 - (1 - c) = c ∧ 1 - c ≠ c := by
 rcases h with rfl | rfl
 ·exact ⟨rfl, .inr rfl, rfl, by decide⟩
 ·exact ⟨rfl, .inl rfl, rfl, by decide⟩
theorem zy0 {D D' : Dsk} {g : Lg} {tx : List Bys} {hi : Nat} (hw : D.wait = []) (hw' : D'.wait = []) (L : zwk D g.h g.at_ tx hi) (hg1 : g.h.gen + 1 < 18446744073709551616) (hq : g.next < 18446744073709551616) (hsq : ∀ i, i < g.h.secs → zd4 D g.h.secs i = true → (zf6 (zch D (2 + i))).seq < g.next)
  (hnew : D'.on[1 - g.at_]? = some (hdP (zbv g))) (hold : D'.on[g.at_]? = D.on[g.at_]?) (hs : zg4 D D' g.h.secs) :
  zv1 D' { g with h := zbv g, at_ := za3 g.at_, used := 0, dead := false } [] := by
 obtain ⟨o1, o2, o3, o4⟩ := qdm L.c01
 have hgen : (zbv g).gen = g.h.gen + 1 := Nat.mod_eq_of_lt hg1
 obtain ⟨k1, k2⟩ := qnz L.hok
 refine ⟨by rw [o1]; exact o2, ⟨Nat.mod_lt _ (by decide), hq, L.hok.secs, L.hok.note⟩, L.secs, by rw [o1]; exact hnew, ?_, fun i hi h3 => ?_, trivial, rfl, rfl, Nat.zero_le _, rfl⟩
 ·show zqm (D'.on.getD (1 - za3 g.at_) []) = true → _
  rw [o1, o3]
  intro _
  rw [List.getD_eq_getElem?_getD, hold, L.head]
  show (hdT (hdP g.h)).gen < (zbv g).gen
  rw [k2, hgen]
  exact Nat.lt_succ_self _
 ·have h3' : zd4 D g.h.secs i = true := by rw [hs.at_ hi]; exact h3
  show (zf6 (zch D' (2 + i))).seq < g.next ∧ _
  rw [← hs i hi]
  exact ⟨hsq i hi h3', (L.sheets i hi h3').2⟩
structure qni (D D' : Dsk) : Prop where
 left : D.left ≠ none
 dead : D'.dead = true
 wait : D'.wait = []
 left' : D'.left = none
 keep : D'.keep = []
structure zkz (D D' : Dsk) : Prop where
 rest : D'.Rest
 keep : D'.keep = D.keep
 left : D.left = none → D'.left = none
theorem qmv {D : Dsk} (hr : D.Rest) {ws : List (Nat × Bys)} (hw : qgy D ws) : ((zcs D ws).1 = 0 ∧ zkz D (zcs D ws).2 ∧ (zcs D ws).2.on = zd8 D.on ws) ∨ ((zcs D ws).1 = 4 ∧ qni D (zcs D ws).2 ∧ Mix D.on ws (zcs D ws).2.on) := by
 rcases qga hr hw with ⟨a, b, c, d, e⟩ | ⟨a, b, c, d, e, f, g⟩
 ·exact .inl ⟨a, ⟨b, d, e⟩, c⟩
 ·exact .inr ⟨b, ⟨a, c, d, e, f⟩, g⟩
theorem zpv {D D' : Dsk} {n : Nat} (hw : D.wait = []) (hw' : D'.wait = []) (h : ∀ i, i < n → D'.on[2 + i]? = D.on[2 + i]?) : zg4 D D' n := fun i hi => by
 rw [zfh hw, zfh hw', List.getD_eq_getElem?_getD, List.getD_eq_getElem?_getD, h i hi]
theorem qas {D : Dsk} {g : Lg} {tx : List Bys} {hi : Nat} (hr : D.Rest) (hlen : 2 + g.h.secs ≤ D.on.length) (L : zwk D g.h g.at_ tx hi) (hg1 : g.h.gen + 1 < 18446744073709551616) (hq : g.next < 18446744073709551616) (hsq : ∀ i, i < g.h.secs → zd4 D g.h.secs i = true → (zf6 (zch D (2 + i))).seq < g.next) :
  ((zcs D [(za3 g.at_, hdP (zbv g))]).1 = 0 ∧ zkz D (zcs D [(za3 g.at_, hdP (zbv g))]).2 ∧ zv1 (zcs D [(za3 g.at_, hdP (zbv g))]).2 { g with h := zbv g, at_ := za3 g.at_, used := 0, dead := false } [] ∧ (∀ i, 2 ≤ i → (zcs D [(za3 g.at_, hdP (zbv g))]).2.on[i]? = D.on[i]?) ∧ (zcs D [(za3 g.at_, hdP (zbv g))]).2.on.length = D.on.length) ∨
  ((zcs D [(za3 g.at_, hdP (zbv g))]).1 = 4 ∧ qni D (zcs D [(za3 g.at_, hdP (zbv g))]).2 ∧ (zwk (zcs D [(za3 g.at_, hdP (zbv g))]).2 g.h g.at_ tx hi ∨ zwk (zcs D [(za3 g.at_, hdP (zbv g))]).2 (zbv g) (1 - g.at_) [] g.next) ∧ (∀ i, 2 ≤ i → (zcs D [(za3 g.at_, hdP (zbv g))]).2.on[i]? = D.on[i]?) ∧ (zcs D [(za3 g.at_, hdP (zbv g))]).2.on.length = D.on.length) := by
 obtain ⟨o1, o2, o3, o4⟩ := qdm L.c01
 have hws : qgy D [(za3 g.at_, hdP (zbv g))] := fun p hp => by
  rw [List.mem_singleton] at hp
  subst hp
  exact ⟨by show za3 g.at_ < _; rw [o1]; omega, ztr L.hok.note⟩
 rw [o1] at hws ⊢
 rcases qmv hr hws with ⟨e, hl, hon⟩ | ⟨e, hd, hm⟩
 ·left
  generalize zcs D [(1 - g.at_, hdP (zbv g))] = r at e hl hon ⊢
  have hon : r.2.on = D.on.set (1 - g.at_) (hdP (zbv g)) := hon
  have h2 : ∀ i, 2 ≤ i → r.2.on[i]? = D.on[i]? := fun i hi => by rw [hon, List.getElem?_set_ne (by omega)]
  have hT := zy0 (D' := r.2) hr.wait hl.rest.wait L hg1 hq hsq (by rw [hon, List.getElem?_set_self (by omega)]) (by rw [hon, List.getElem?_set_ne o4]) (zpv hr.wait hl.rest.wait fun i _ => h2 (2 + i) (by omega))
  rw [o1] at hT
  exact ⟨e, hl, hT, h2, by rw [hon, List.length_set]⟩
 ·right
  generalize zcs D [(1 - g.at_, hdP (zbv g))] = r at e hd hm ⊢
  have hlen' := hm.1
  have h1 : ∀ i, i ≠ 1 - g.at_ → r.2.on[i]? = D.on[i]? := fun i hi => by
   by_cases hil : i < D.on.length
   ·rcases hm.2 i hil with h | ⟨s, hs, -⟩
    ·exact h
    ·rw [List.mem_singleton] at hs
     cases hs
     exact absurd rfl hi
   ·rw [List.getElem?_eq_none (by omega), List.getElem?_eq_none (by omega)]
  have h2 : ∀ i, 2 ≤ i → r.2.on[i]? = D.on[i]? := fun i hi => h1 i (by omega)
  have hs := zpv (n := g.h.secs) hr.wait hd.wait fun i _ => h2 (2 + i) (by omega)
  refine ⟨e, hd, ?_, h2, hlen'⟩
  rcases hm.2 (1 - g.at_) (by omega) with h | ⟨s, hs', h⟩
  ·refine .inl (L.ext (fun i hi => ?_) hs)
   by_cases hi2 : i = 1 - g.at_
   ·rw [hi2, h]
   ·rw [h1 i hi2]
  ·rw [List.mem_singleton] at hs'
   cases hs'
   have hT := zy0 (D' := r.2) hr.wait hd.wait L hg1 hq hsq h (h1 _ (Ne.symm o4)) hs
   rw [o1] at hT
   exact .inr (hT.rec' hq)
/-! ### A commit's sheets -/
theorem zk5 {a b n : Nat} (h1 : a < b) (h2 : b - a < n) : zbh a n ≠ zbh b n := by
 intro h
 unfold zbh at h
 have h3 : (b - a) % n = 0 := by
  have h4 : b % n = a % n := by omega
  exact Nat.sub_mod_eq_zero_of_mod_eq h4
 rw [Nat.mod_eq_of_lt h2] at h3
 omega
theorem zwl.mono {B B' : zeg} : ∀ {ts : List Bys} {q : Nat}, zwl B q ts → (∀ k, q ≤ k → k < zkk q ts → B'.lookup k = B.lookup k) → zwl B' q ts
 | [], _, _, _ => trivial
 | t :: ts, q, h, he => by
  have h1 := zph ts (q + zbb t.length)
  refine ⟨fun j hj => ?_, zwl.mono h.2 fun k hk1 hk2 => he k (by omega) hk2⟩
  rw [he (q + j) (by omega) (by rw [zkk]; omega)]
  exact h.1 j hj
theorem zve {D D' : Dsk} {n k : Nat} (h : zch D (zbh k n) = zch D' (zbh k n)) : (zbj D' n n).lookup k = (zbj D n n).lookup k := by
 rw [zff, zff]
 unfold zd4
 have h' : zch D (2 + k % n) = zch D' (2 + k % n) := h
 rw [h', show zbh k n = 2 + k % n from rfl, h']
theorem zp1 {g : Lg} {t : Bys} {p : Nat × Bys} (h : p ∈ wsC g t) : ∃ j, j < zbb t.length ∧ p = (zbh (g.next + j) g.h.secs, zno (pcS g.next t j)) := by
 unfold wsC qp7 at h
 rw [List.map_map] at h
 obtain ⟨j, hj, rfl⟩ := List.mem_map.1 h
 exact ⟨j, List.mem_range.1 hj, rfl⟩
theorem qj2 {g : Lg} {t : Bys} {j : Nat} (hj : j < zbb t.length) : (zbh (g.next + j) g.h.secs, zno (pcS g.next t j)) ∈ wsC g t := by
 unfold wsC qp7
 rw [List.map_map]
 exact List.mem_map.2 ⟨j, List.mem_range.2 hj, rfl⟩
structure Mid (D D' : Dsk) (g : Lg) (tx : List Bys) (t : Bys) : Prop where
 low : ∀ i, i < 2 → D'.on[i]? = D.on[i]?
 high : ∀ i, 2 + g.h.secs ≤ i → D'.on[i]? = D.on[i]?
 sheets : ∀ i, i < g.h.secs → zd4 D' g.h.secs i = true → (zf6 (zch D' (2 + i))).seq < g.next + zbb t.length ∧ (zf6 (zch D' (2 + i))).text ≠ []
 has : zwl (zbj D' g.h.secs g.h.secs) g.h.first tx
 piece : ∀ j, j < zbb t.length → (zbj D' g.h.secs g.h.secs).lookup (g.next + j) = some (pcS g.next t j) ∨ (zbj D' g.h.secs g.h.secs).lookup (g.next + j) = none
theorem qkd {D D' : Dsk} {g : Lg} {tx : List Bys} {t : Bys} (hw : D.wait = []) (hw' : D'.wait = []) (L : zv1 D g tx) (hlen : 2 + g.h.secs ≤ D.on.length) (ht : t ≠ []) (hroom : g.used + zbb t.length ≤ g.h.secs) (hnx : g.next + zbb t.length < 18446744073709551616) (hm : Mix D.on (wsC g t) D'.on) : Mid D D' g tx t := by
 have hs0 := L.secs
 have hpl : ∀ j, zbh (g.next + j) g.h.secs < 2 + g.h.secs ∧ 2 ≤ zbh (g.next + j) g.h.secs := fun j => by
  have := Nat.mod_lt (g.next + j) hs0
  unfold zbh
  omega
 have hout : ∀ i, (∀ j, j < zbb t.length → i ≠ zbh (g.next + j) g.h.secs) → D'.on[i]? = D.on[i]? := fun i hi => by
  by_cases hil : i < D.on.length
  ·rcases hm.2 i hil with h | ⟨s, hs, -⟩
   ·exact h
   ·obtain ⟨j, hj, he⟩ := zp1 hs
    exact absurd (congrArg Prod.fst he) (hi j hj)
  ·rw [List.getElem?_eq_none (by have := hm.1; omega), List.getElem?_eq_none (by omega)]
 have hcur : ∀ i, D'.on[i]? = D.on[i]? → zch D i = zch D' i := fun i h => by
  rw [zfh hw, zfh hw', List.getD_eq_getElem?_getD, List.getD_eq_getElem?_getD, h]
 refine ⟨fun i hi => hout i fun j hj => ?_, fun i hi => hout i fun j hj => ?_, fun i hi h3 => ?_, L.has.mono fun k hk1 hk2 => ?_, fun j hj => ?_⟩
 ·have := (hpl j).2; omega
 ·have := (hpl j).1; omega
 ·rcases hm.2 (2 + i) (by omega) with h | ⟨s, hs, h⟩
  ·have hc := hcur _ h
   have h3' : zd4 D g.h.secs i = true := by unfold zd4 at h3 ⊢; rw [hc]; exact h3
   have := L.sheets i hi h3'
   rw [← hc]
   exact ⟨Nat.lt_of_lt_of_le this.1 (Nat.le_add_right _ _), this.2⟩
  ·obtain ⟨j, hj, he⟩ := zp1 hs
   have hs2 : s = zno (pcS g.next t j) := congrArg Prod.snd he
   have hc : zch D' (2 + i) = zno (pcS g.next t j) := by rw [Dsk.cur hw' h, hs2]
   have hso := qjm (s := pcS g.next t j) (by show g.next + j < _; omega) (zth _ _ _)
   rw [hc, hso.2]
   exact ⟨by show g.next + j < _; omega, qoj ht hj⟩
 ·refine zve (hcur _ (hout _ fun j hj => ?_))
  have hu := L.used
  have hx := L.next
  exact zk5 (by omega) (by omega)
 ·rcases hm.2 (zbh (g.next + j) g.h.secs) (by have := (hpl j).1; omega) with h | ⟨s, hs, h⟩
  ·right
   rw [zve (hcur _ h)]
   exact zt6 hs0 (fun i hi hs => (L.sheets i hi hs).1) _ (Nat.le_add_right _ _)
  ·left
   obtain ⟨j', hj', he⟩ := zp1 hs
   have hp : zbh (g.next + j) g.h.secs = zbh (g.next + j') g.h.secs := congrArg Prod.fst he
   have hjj : j = j' := by
    rcases Nat.lt_trichotomy j j' with hlt | h | hlt
    ·exact absurd hp (zk5 (by omega) (by omega))
    ·exact h
    ·exact absurd hp.symm (zk5 (by omega) (by omega))
   subst hjj
   have hs2 : s = zno (pcS g.next t j) := congrArg Prod.snd he
   rw [hs2] at h
   exact zrl (s := pcS g.next t j) hw' hs0 (by show g.next + j < _; omega) (zth _ _ _) h
theorem Mid.back {D D' : Dsk} {g : Lg} {tx : List Bys} {t : Bys} (L : zv1 D g tx) (hnx : g.next + zbb t.length < 18446744073709551616) (M : Mid D D' g tx t) : zwk D' g.h g.at_ tx (g.next + zbb t.length) ∨ zwk D' g.h g.at_ (tx ++ [t]) (g.next + zbb t.length) := by
 have hhead : D'.on[g.at_]? = some (hdP g.h) := by rw [M.low _ (by have := L.c01; omega)]; exact L.head
 have hother : zqm (D'.on.getD (1 - g.at_) []) = true → (hdT (D'.on.getD (1 - g.at_) [])).gen < g.h.gen := by
  have e : D'.on.getD (1 - g.at_) [] = D.on.getD (1 - g.at_) [] := by rw [List.getD_eq_getElem?_getD, List.getD_eq_getElem?_getD, M.low (1 - g.at_) (by omega)]
  rw [e]; exact L.other
 have hfi : g.h.first ≤ g.next + zbb t.length := by have := L.used; omega
 by_cases hall : ∀ j, j < zbb t.length → (zbj D' g.h.secs g.h.secs).lookup (g.next + j) = some (pcS g.next t j)
 ·right
  refine ⟨L.c01, L.hok, L.secs, hhead, hother, M.sheets, ?_, hfi⟩
  have hend : zkk g.h.first (tx ++ [t]) = g.next + zbb t.length := by rw [zsz, ← L.next]
  refine zlw (by rw [hend]; exact hnx) (M.has.app (by rw [← L.next]; exact hall)) (zub ?_)
  rw [hend]
  exact zt6 L.secs (fun i hi hs => (M.sheets i hi hs).1) _ (Nat.le_refl _)
 ·left
  refine ⟨L.c01, L.hok, L.secs, hhead, hother, M.sheets, ?_, hfi⟩
  have hex : ∃ k, k < zbb t.length ∧ (zbj D' g.h.secs g.h.secs).lookup (g.next + k) = none ∧ ∀ j, j < k → (zbj D' g.h.secs g.h.secs).lookup (g.next + j) = some (pcS g.next t j) := by
   have : ∀ m, m ≤ zbb t.length → (∀ j, j < m → (zbj D' g.h.secs g.h.secs).lookup (g.next + j) = some (pcS g.next t j)) ∨ ∃ k, k < m ∧ (zbj D' g.h.secs g.h.secs).lookup (g.next + k) = none ∧ ∀ j, j < k → (zbj D' g.h.secs g.h.secs).lookup (g.next + j) = some (pcS g.next t j) := by
    intro m
    induction m with
    | zero => exact fun _ => .inl fun j hj => absurd hj (Nat.not_lt_zero _)
    | succ m ih =>
     intro hm
     rcases ih (by omega) with h | ⟨k, h1, h2, h3⟩
     ·rcases M.piece m hm with h4 | h4
      ·exact .inl fun j hj => by
        rcases Nat.lt_succ_iff_lt_or_eq.1 hj with h5 | rfl
        ·exact h j h5
        ·exact h4
      ·exact .inr ⟨m, Nat.lt_succ_self _, h4, h⟩
     ·exact .inr ⟨k, by omega, h2, h3⟩
   rcases this _ (Nat.le_refl _) with h | h
   ·exact absurd h hall
   ·exact h
  obtain ⟨k, hk1, hk2, hk3⟩ := hex
  refine zlw (by rw [← L.next]; omega) M.has ?_
  rw [← L.next]
  exact qdz hnx hk1 hk3 hk2
theorem Mid.done {D D' : Dsk} {g : Lg} {tx : List Bys} {t : Bys} (L : zv1 D g tx) (hroom : g.used + zbb t.length ≤ g.h.secs) (M : Mid D D' g tx t) (hall : ∀ j, j < zbb t.length → (zbj D' g.h.secs g.h.secs).lookup (g.next + j) = some (pcS g.next t j)) :
  zv1 D' { g with next := g.next + zbb t.length, used := g.used + zbb t.length, dead := false } (tx ++ [t]) where
 c01 := L.c01
 hok := L.hok
 secs := L.secs
 head := by show D'.on[g.at_]? = some (hdP g.h); rw [M.low g.at_ (by have := L.c01; omega)]; exact L.head
 other := by
  have e : D'.on.getD (1 - g.at_) [] = D.on.getD (1 - g.at_) [] := by rw [List.getD_eq_getElem?_getD, List.getD_eq_getElem?_getD, M.low (1 - g.at_) (by omega)]
  show zqm (D'.on.getD (1 - g.at_) []) = true → _
  rw [e]; exact L.other
 sheets := M.sheets
 has := M.has.app (by rw [← L.next]; exact hall)
 next := by
  show g.next + _ = zkk g.h.first (tx ++ [t])
  rw [zsz, ← L.next]
 used := by
  show g.h.first + (g.used + _) = g.next + _
  have := L.used; omega
 usedle := hroom
 dead := rfl
theorem qci {D : Dsk} {g : Lg} {tx : List Bys} {t : Bys} (hr : D.Rest) (L : zv1 D g tx) (hlen : 2 + g.h.secs ≤ D.on.length) (ht : t ≠ []) (hroom : g.used + zbb t.length ≤ g.h.secs) (hnx : g.next + zbb t.length < 18446744073709551616) :
  ((zcs D (wsC g t)).1 = 0 ∧ zkz D (zcs D (wsC g t)).2 ∧ zv1 (zcs D (wsC g t)).2 { g with next := g.next + zbb t.length, used := g.used + zbb t.length, dead := false } (tx ++ [t]) ∧ (∀ i, 2 + g.h.secs ≤ i → (zcs D (wsC g t)).2.on[i]? = D.on[i]?) ∧ (zcs D (wsC g t)).2.on.length = D.on.length) ∨
  ((zcs D (wsC g t)).1 = 4 ∧ qni D (zcs D (wsC g t)).2 ∧ (zwk (zcs D (wsC g t)).2 g.h g.at_ tx (g.next + zbb t.length) ∨ zwk (zcs D (wsC g t)).2 g.h g.at_ (tx ++ [t]) (g.next + zbb t.length)) ∧ (∀ i, 2 + g.h.secs ≤ i → (zcs D (wsC g t)).2.on[i]? = D.on[i]?) ∧ (zcs D (wsC g t)).2.on.length = D.on.length) := by
 have hs0 := L.secs
 have hws : qgy D (wsC g t) := fun p hp => by
  obtain ⟨j, hj, rfl⟩ := zp1 hp
  refine ⟨?_, qam (zth _ _ _)⟩
  have := Nat.mod_lt (g.next + j) hs0
  show zbh (g.next + j) g.h.secs < _
  unfold zbh
  omega
 rcases qmv hr hws with ⟨e, hl, hon⟩ | ⟨e, hd, hm⟩
 ·left
  generalize zcs D (wsC g t) = r at e hl hon ⊢
  have hm : Mix D.on (wsC g t) r.2.on := by rw [hon]; exact Mix.all _ _
  have M := qkd hr.wait hl.rest.wait L hlen ht hroom hnx hm
  refine ⟨e, hl, M.done L hroom fun j hj => ?_, M.high, hm.1⟩
  have hpl : zbh (g.next + j) g.h.secs < D.on.length := (hws _ (qj2 hj)).1
  refine zrl (s := pcS g.next t j) hl.rest.wait hs0 (by show g.next + j < _; omega) (zth _ _ _) ?_
  show r.2.on[zbh (g.next + j) g.h.secs]? = _
  -- the writes' places are apart, so the last one at a place is the only one
  have hlast : ∀ (ws : List (Nat × Bys)) (on : List Bys) (a : Nat) (s : Bys), a < on.length → (a, s) ∈ ws → (∀ p ∈ ws, p.1 = a → p.2 = s) → (zd8 on ws)[a]? = some s := by
   intro ws
   induction ws with
   | nil => intro on a s _ h; cases h
   | cons p l ih =>
    intro on a s ha hin hall
    rw [zd8]
    by_cases hin2 : (a, s) ∈ l
    ·exact ih _ a s (by rw [List.length_set]; exact ha) hin2 fun q hq => hall q (.tail _ hq)
    ·rcases List.mem_cons.1 hin with rfl | h
     ·rw [zfg fun q hq he => hin2 (by have := hall q (.tail _ hq) he; rw [← he, ← this]; exact hq)]
      exact List.getElem?_set_self ha
     ·exact absurd h hin2
  rw [hon]
  refine hlast _ _ _ _ hpl (qj2 hj) fun p hp he => ?_
  obtain ⟨j', hj', rfl⟩ := zp1 hp
  have hjj : j' = j := by
   have he : zbh (g.next + j') g.h.secs = zbh (g.next + j) g.h.secs := he
   rcases Nat.lt_trichotomy j' j with hlt | h | hlt
   ·exact absurd he (zk5 (by omega) (by omega))
   ·exact h
   ·exact absurd he.symm (zk5 (by omega) (by omega))
  rw [hjj]
 ·right
  generalize zcs D (wsC g t) = r at e hd hm ⊢
  have M := qkd hr.wait hd.wait L hlen ht hroom hnx hm
  exact ⟨e, hd, M.back L hnx, M.high, hm.1⟩
structure qq8 (TS : List PR) (n : Nat) : Prop where
 each : ∀ R ∈ TS, R.Ok n ∧ R ≠ [] ∧ R.length ≤ 1024
 many : TS.length ≤ 512
structure zwu (D : Dsk) (n secs : Nat) (note : Bys) (V : List Bys) (B : Nat) (h : Hd) (c : Nat) (TS : List PR) : Prop where
 log : zwk D h c (TS.map zd0) B
 hs : h.secs = secs
 hnote : h.note = beN 2 n ++ note
 gen : h.gen ≤ B
 ts : qq8 TS n
 rep : ∀ i, i < n → (zhs TS i).or D.on[2 + secs + i]? = V[i]?
structure Siz (D : Dsk) (n secs : Nat) (note : Bys) (V : List Bys) : Prop where
 n1 : 64 ≤ n
 n2 : n ≤ 1024
 s1 : 1 ≤ secs
 s2 : secs ≤ 512
 note : note.length ≤ 40
 room : 2 + secs + n ≤ D.on.length
 Vl : V.length = n
 Vs : ∀ p ∈ V, p.length = 512
 ok : D.Ok
structure StI (s : Pg) (D : Dsk) (n secs : Nat) (note : Bys) (V : List Bys) (B : Nat) (TS : List PR) : Prop where
 siz : Siz D n secs note V
 rest : D.Rest
 hn : s.n = n
 hnote : s.note = note
 hsecs : s.g.h.secs = secs
 hhnote : s.g.h.note = beN 2 n ++ note
 log : zv1 D s.g (TS.map zd0)
 ts : ∀ R ∈ TS, R.Ok n ∧ R ≠ [] ∧ R.length ≤ 1024
 dead : s.dead = false
 Kok : s.K.Ok n
 Kv : ∀ i b, s.K.lookup i = some b → V[i]? = some b
 Rk : ∀ i ∈ s.R, (s.K.lookup i).isSome = true ∧ (zhs TS i).isSome = true ∧ i < n
 Rn : s.R.Nodup
 pages : ∀ i, i < n → i ∉ s.R → D.on[2 + secs + i]? = V[i]?
 rep : ∀ i b, zhs TS i = some b → V[i]? = some b
 Cok : s.C.Ok n
 Cn : (s.C.map (·.1)).Nodup
 gen : s.g.h.gen ≤ B
 next : s.g.next ≤ B
theorem Siz.ext {D D' : Dsk} {n secs : Nat} {note : Bys} {V : List Bys} (h : Siz D n secs note V) (ho : D'.Ok) (hl : D'.on.length = D.on.length) : Siz D' n secs note V :=
 ⟨h.n1, h.n2, h.s1, h.s2, h.note, by rw [hl]; exact h.room, h.Vl, h.Vs, ho⟩
theorem qhj {R : PR} (h : R ≠ []) : zd0 R ≠ [] := by
 cases R with
 | nil => exact absurd rfl h
 | cons p R =>
  intro he
  have := congrArg List.length he
  rw [zrw, List.length_append, zao] at this
  simp at this
theorem zv1.many {D : Dsk} {g : Lg} {tx : List Bys} (L : zv1 D g tx) : tx.length ≤ g.used := by
 have h1 := zy4 tx g.h.first
 have h2 := L.next
 have h3 := L.used
 omega
theorem StI.rec' {s : Pg} {D : Dsk} {n secs : Nat} {note : Bys} {V : List Bys} {B : Nat} {TS : List PR} (h : StI s D n secs note V B TS) (hB : B < 9223372036854775808) : zwu D n secs note V B s.g.h s.g.at_ TS where
 log := by
  have := h.log.rec' (by have := h.next; omega)
  exact ⟨this.c01, this.hok, this.secs, this.head, this.other, fun i hi hs => ⟨Nat.lt_of_lt_of_le (this.sheets i hi hs).1 h.next, (this.sheets i hi hs).2⟩, this.read, Nat.le_trans this.first h.next⟩
 hs := h.hsecs
 hnote := h.hhnote
 gen := h.gen
 ts := ⟨h.ts, by have h1 := h.log.many; have h2 := h.log.usedle; have h3 := h.siz.s2; rw [List.length_map] at h1; rw [h.hsecs] at h2; omega⟩
 rep := fun i hi => by
  cases hl : zhs TS i with
  | some b => exact (h.rep i b hl).symm
  | none =>
   have : i ∉ s.R := fun hr => by have := (h.Rk i hr).2.1; rw [hl] at this; cases this
   rw [← h.pages i hi this]; rfl
theorem qmo (D : Dsk) (g : Lg) (TS : List PR) : opF D g TS = if (zcs D (wsO g.h.secs TS)).1 = 0 then ((zcs (zcs D (wsO g.h.secs TS)).2 [(za3 g.at_, hdP (zbv g))]).1, (zcs (zcs D (wsO g.h.secs TS)).2 [(za3 g.at_, hdP (zbv g))]).2, { zkg g (zcs D (wsO g.h.secs TS)).2 with dead := decide ((zcs (zcs D (wsO g.h.secs TS)).2 [(za3 g.at_, hdP (zbv g))]).1 = 4) }) else ((zcs D (wsO g.h.secs TS)).1, (zcs D (wsO g.h.secs TS)).2, g) := by
 rw [← zgq]
 unfold opF ftF zcs
 by_cases h : (zb6 D (wsO g.h.secs TS)).1 = 0
 ·rw [if_pos h, if_pos h]
 ·rw [if_neg h, if_neg h, if_neg h]
theorem qbu {b : Bys} (h : zid b = true) : (zf6 b).text.length ≤ 497 := by
 unfold zf6
 rw [h, if_pos rfl]
 unfold zid at h
 simp only [Bool.and_eq_true, decide_eq_true_eq] at h
 exact h.2.1
theorem zwu.pages {D D' : Dsk} {n secs : Nat} {note : Bys} {V : List Bys} {B : Nat} {h : Hd} {c : Nat} {TS : List PR} (R : zwu D n secs note V B h c TS) (hw : D.wait = []) (hw' : D'.wait = []) (hlow : ∀ i, i < 2 + secs → D'.on[i]? = D.on[i]?) (hp : ∀ i, i < n → zhs TS i = none → D'.on[2 + secs + i]? = D.on[2 + secs + i]?) : zwu D' n secs note V B h c TS where
 log := R.log.ext (fun i hi => (hlow i (by omega)).symm) (zpv hw hw' fun i hi => hlow (2 + i) (by have := R.hs; omega))
 hs := R.hs
 hnote := R.hnote
 gen := R.gen
 ts := R.ts
 rep := fun i hi => by
  rw [← R.rep i hi]
  cases hl : zhs TS i with
  | some b => rfl
  | none => rw [hp i hi hl]
theorem zs3 {on on' : List Bys} {ws : List (Nat × Bys)} (hm : Mix on ws on') {i : Nat} (h : ∀ p ∈ ws, p.1 ≠ i) : on'[i]? = on[i]? := by
 by_cases hi : i < on.length
 ·rcases hm.2 i hi with h1 | ⟨s, hs, -⟩
  ·exact h1
  ·exact absurd rfl (h _ hs)
 ·rw [List.getElem?_eq_none (by have := hm.1; omega), List.getElem?_eq_none (by omega)]
theorem zlf {D : Dsk} (h : D.Ok) (ws : List (Nat × Bys)) : (zcs D ws).2.Ok := by
 unfold zcs
 split
 ·exact zix (ziw _ _ h)
 ·exact ziw _ _ h
theorem qde {D : Dsk} {n secs : Nat} {note : Bys} {V : List Bys} {B : Nat} {h : Hd} {c : Nat} {TS : List PR} (z : Siz D n secs note V) (hr : D.Rest) (hB : B + 1 < 9223372036854775808) (R : zwu D n secs note V B h c TS) :
  ((opF D (zcp D h c) TS).1 = 0 ∧ zkz D (opF D (zcp D h c) TS).2.1 ∧ (∀ s, Opd s (opF D (zcp D h c) TS).2.1 (opF D (zcp D h c) TS).2.2 n note → StI s (opF D (zcp D h c) TS).2.1 n secs note V (B + 1) []) ∧ some (zch (opF D (zcp D h c) TS).2.1 (2 + h.secs)) = V[0]?) ∨
  ((opF D (zcp D h c) TS).1 = 4 ∧ qni D (opF D (zcp D h c) TS).2.1 ∧ Siz (opF D (zcp D h c) TS).2.1 n secs note V ∧ ∃ h' c' TS', zwu (opF D (zcp D h c) TS).2.1 n secs note V (B + 1) h' c' TS') := by
 have hgs : (zcp D h c).h = h := rfl
 have hsecs := R.hs
 have hroom := z.room
 have hTO : ∀ Q ∈ TS, Q.Ok n := fun Q hQ => (R.ts.each Q hQ).1
 have hws : qgy D (wsO secs TS) := fun p hp => by
  obtain ⟨i, h1, -, Q, hQ, hl⟩ := zw6 hp
  have := qdn (n := n) (A := []) (fun _ h => nomatch h) (hTO Q hQ) _ (zcm hl)
  exact ⟨by rw [h1]; have := this.1; simp only at this; omega, this.2⟩
 have hout : ∀ i, i < 2 + secs → ∀ p ∈ wsO secs TS, p.1 ≠ i := fun i hi p hp => by
  obtain ⟨j, h1, -⟩ := zw6 hp
  omega
 have hun : ∀ i, zhs TS i = none → ∀ p ∈ wsO secs TS, p.1 ≠ 2 + secs + i := fun i hi p hp => by
  obtain ⟨j, h1, h2, -⟩ := zw6 hp
  intro he
  have : j = i := by omega
  rw [this, hi] at h2
  cases h2
 have hnx := zu4 (D := D) (n := h.secs) (first := h.first) (lo := 0) (hi := B) R.log.first (by omega) (.inl (Nat.zero_le _)) fun i hi hs => (R.log.sheets i hi hs).1
 rw [qmo, show (zcp D h c).h.secs = secs from hsecs]
 rcases qmv hr hws with ⟨e, hl, hon⟩ | ⟨e, hd, hm⟩
 ·rw [if_pos e]
  have hok1 := zlf z.ok (wsO secs TS)
  generalize zcs D (wsO secs TS) = r at e hl hon hok1 ⊢
  have hlow : ∀ i, i < 2 + secs → r.2.on[i]? = D.on[i]? := fun i hi => by rw [hon]; exact zfg (hout i hi)
  have hlen : r.2.on.length = D.on.length := by rw [hon, zgf]
  have hpg : ∀ i, i < n → r.2.on[2 + secs + i]? = V[i]? := fun i hi => by
   rw [hon, qoc (by omega), R.rep i hi]
  have hsame : zg4 D r.2 h.secs := zpv hr.wait hl.rest.wait fun i hi => hlow (2 + i) (by omega)
  have L1 : zwk r.2 (zcp D h c).h (zcp D h c).at_ (TS.map zd0) B := R.log.ext (fun i hi => (hlow i (by omega)).symm) hsame
  have hgn : (zcp D h c).h.gen + 1 < 18446744073709551616 := by have := R.gen; show h.gen + 1 < _; omega
  have hq : (zcp D h c).next < 18446744073709551616 := by have := hnx.2.2.1; show ze4 _ _ < _; omega
  have hsq : ∀ i, i < (zcp D h c).h.secs → zd4 r.2 (zcp D h c).h.secs i = true → (zf6 (zch r.2 (2 + i))).seq < (zcp D h c).next := fun i hi hs => by
   have hi' : i < h.secs := hi
   rw [← hsame i hi']
   exact hnx.2.2.2 i hi' (by rw [hsame.at_ hi']; exact hs)
  have hroom1 : 2 + (zcp D h c).h.secs ≤ r.2.on.length := by show 2 + h.secs ≤ _; omega
  have hok2 := zlf hok1 [(za3 (zcp D h c).at_, hdP (zbv (zcp D h c)))]
  rcases qas hl.rest hroom1 L1 hgn hq hsq with ⟨e2, hl2, L2, h2, hlen2⟩ | ⟨e2, hd2, L2, h2, hlen2⟩
  ·left
   have htg : ({ zkg (zcp D h c) r.2 with dead := decide ((zcs r.2 [(za3 (zcp D h c).at_, hdP (zbv (zcp D h c)))]).1 = 4) } : Lg) = { zcp D h c with h := zbv (zcp D h c), at_ := za3 (zcp D h c).at_, used := 0, dead := false } := by
    unfold zkg
    rw [zgq, if_pos e2, e2]
    rfl
   rw [htg]
   generalize zcs r.2 [(za3 (zcp D h c).at_, hdP (zbv (zcp D h c)))] = r2 at e2 hl2 L2 h2 hlen2 hok2 ⊢
   have hpg2 : ∀ i, i < n → r2.2.on[2 + secs + i]? = V[i]? := fun i hi => by rw [h2 _ (by omega), hpg i hi]
   refine ⟨e2, ⟨hl2.rest, hl2.keep.trans hl.keep, fun h => hl2.left (hl.left h)⟩, fun s O => ?_, ?_⟩
   ·have hs0 : 0 < n := by have := z.n1; omega
    refine ⟨z.ext hok2 (by rw [hlen2, hlen]), hl2.rest, O.hn, O.hnote, by rw [O.hg]; exact hsecs, by rw [O.hg]; exact R.hnote, by rw [O.hg]; exact L2, (fun _ hh => (nomatch hh)), O.hdead, ?_, fun i b hb => ?_, by rw [O.hR]; exact fun _ hh => (nomatch hh), by rw [O.hR]; exact List.nodup_nil, fun i hi _ => hpg2 i hi, fun i b hb => (by cases hb), by rw [O.hC]; exact fun _ hh => (nomatch hh), by rw [O.hC]; exact List.nodup_nil, by rw [O.hg]; show (zbv (zcp D h c)).gen ≤ _; rw [show (zbv (zcp D h c)).gen = h.gen + 1 from Nat.mod_eq_of_lt hgn]; have := R.gen; omega, by rw [O.hg]; have := hnx.2.2.1; show ze4 _ _ ≤ _; omega⟩
    ·rw [O.hK]
     intro p hp
     rw [List.mem_singleton] at hp
     subst hp
     exact ⟨hs0, ztc hok2 (by show 2 + h.secs < _; omega)⟩
    ·rw [O.hK] at hb
     have hi0 : i = 0 ∧ zch r2.2 (2 + h.secs) = b := by
      rw [List.lookup_cons] at hb
      by_cases hi : i = 0
      ·subst hi
       simp at hb
       exact ⟨rfl, hb⟩
      ·rw [show (i == 0) = false by simpa using hi] at hb
       cases hb
     rw [hi0.1, ← hpg2 0 hs0, ← hi0.2, zfh hl2.rest.wait, List.getD_eq_getElem?_getD, hsecs, Nat.add_zero]
     rw [List.getElem?_eq_getElem (by omega)]
     rfl
   ·rw [← hpg2 0 (by have := z.n1; omega), zfh hl2.rest.wait, List.getD_eq_getElem?_getD, hsecs, Nat.add_zero, List.getElem?_eq_getElem (by have := z.n1; omega)]
    rfl
  ·right
   generalize zcs r.2 [(za3 (zcp D h c).at_, hdP (zbv (zcp D h c)))] = r2 at e2 hd2 L2 h2 hlen2 hok2 ⊢
   have hpg2 : ∀ i, i < n → r2.2.on[2 + secs + i]? = V[i]? := fun i hi => by rw [h2 _ (by omega), hpg i hi]
   refine ⟨e2, ⟨fun h => hd2.left (hl.left h), hd2.dead, hd2.wait, hd2.left', hd2.keep⟩, z.ext hok2 (by rw [hlen2, hlen]), ?_⟩
   rcases L2 with L2 | L2
   ·refine ⟨h, c, TS, ⟨⟨L2.c01, L2.hok, L2.secs, L2.head, L2.other, fun i hi hs => ⟨Nat.lt_of_lt_of_le (L2.sheets i hi hs).1 (by omega), (L2.sheets i hi hs).2⟩, L2.read, Nat.le_trans L2.first (by omega)⟩, hsecs, R.hnote, by have := R.gen; omega, R.ts, fun i hi => ?_⟩⟩
    rw [hpg2 i hi]
    cases hlt : zhs TS i with
    | none => rfl
    | some b =>
     have := R.rep i hi
     rw [hlt] at this
     exact this
   ·refine ⟨_, _, [], ⟨⟨L2.c01, L2.hok, L2.secs, L2.head, L2.other, fun i hi hs => ⟨Nat.lt_of_lt_of_le (L2.sheets i hi hs).1 (by have := hnx.2.2.1; show ze4 _ _ ≤ _; omega), (L2.sheets i hi hs).2⟩, L2.read, Nat.le_trans L2.first (by have := hnx.2.2.1; show ze4 _ _ ≤ _; omega)⟩, hsecs, R.hnote, by rw [show (zbv (zcp D h c)).gen = h.gen + 1 from Nat.mod_eq_of_lt hgn]; have := R.gen; omega, ⟨(fun _ hh => (nomatch hh)), by decide⟩, fun i hi => ?_⟩⟩
    rw [hpg2 i hi]; rfl
 ·right
  rw [if_neg (by rw [e]; decide)]
  have hok1 := zlf z.ok (wsO secs TS)
  generalize zcs D (wsO secs TS) = r at e hd hm hok1 ⊢
  refine ⟨e, hd, z.ext hok1 hm.1, h, c, TS, ?_⟩
  have R2 := R.pages (D' := r.2) hr.wait hd.wait (fun i hi => zs3 hm (hout i hi)) (fun i hi hlt => zs3 hm (hun i hlt))
  exact ⟨⟨R2.log.c01, R2.log.hok, R2.log.secs, R2.log.head, R2.log.other, fun i hi hs => ⟨Nat.lt_of_lt_of_le (R2.log.sheets i hi hs).1 (by omega), (R2.log.sheets i hi hs).2⟩, R2.log.read, Nat.le_trans R2.log.first (by omega)⟩, R2.hs, R2.hnote, by have := R2.gen; omega, R2.ts, R2.rep⟩
end Go.Proofs.YtkkfifhaobjicaaGreatDoor
