/- The plain law of the store: a qgb, done or cut off. -/
/- The plain law of the store: Commit; what a disk has that is off. -/
/- The plain law of the store: what is done in memory. -/
/- The plain law of the store: a disk that is new, and its format. -/
/- The document's pages (armariumref08): zero, Page, Has, Need, Abort; Full of armariumlaw04. -/
import Derived.Test.YtkkfifhaobjicaaGreatDoorHb33
namespace Go.Proofs.YtkkfifhaobjicaaGreatDoor
set_option maxRecDepth 100000
def zg9 (V : List Bys) (C : PR) : List Bys := (List.range V.length).map fun i => (C.lookup i).getD (V.getD i [])
theorem qfd (V : List Bys) (C : PR) : (zg9 V C).length = V.length := by simp [zg9]
theorem zz0 {V : List Bys} {C : PR} {i : Nat} (h : i < V.length) : (zg9 V C)[i]? = (C.lookup i).or V[i]? := by
 have e : (zg9 V C)[i]? = some ((C.lookup i).getD (V.getD i [])) := by
  unfold zg9
  rw [List.getElem?_map, List.getElem?_range h]
  rfl
 rw [e, List.getD_eq_getElem?_getD, List.getElem?_eq_getElem h]
 cases C.lookup i <;> rfl
theorem qd1 {f : Nat → Option Bys} : ∀ (R A : PR) (i : Nat), (∀ p ∈ R, f p.1 = some p.2) → (zma A R).lookup i = if i ∈ R.map (·.1) then f i else A.lookup i
 | [], A, i, _ => by simp [zma]
 | p :: R, A, i, h => by
  show (zma (zep A p.1 p.2) R).lookup i = _
  rw [qd1 R _ i fun q hq => h q (.tail _ hq), zc5]
  by_cases h1 : i ∈ R.map (·.1)
  ·rw [if_pos h1, if_pos (by rw [List.map_cons]; exact .tail _ h1)]
  ·rw [if_neg h1]
   by_cases h2 : i = p.1
   ·rw [if_pos h2, if_pos (by rw [List.map_cons, h2]; exact .head _), h2, h p (.head _)]
   ·rw [if_neg h2, if_neg (by rw [List.map_cons, List.mem_cons]; rintro (h3 | h3); exact h2 h3; exact h1 h3)]
theorem qiy (C : PR) (i : Nat) : (zma [] (zdw C)).lookup i = C.lookup i := by
 rw [qd1 (f := fun i => C.lookup i) _ _ _ fun p hp => zqa hp]
 by_cases h : (C.lookup i).isSome = true
 ·rw [if_pos (zms.2 h)]
 ·rw [if_neg (fun hc => h (zms.1 hc))]
  cases hl : C.lookup i with
  | none => rfl
  | some b => rw [hl] at h; exact absurd rfl h
theorem zpl (C : PR) : (zdw C).length = C.length := by rw [zdw, List.length_map, znu, List.length_map]
theorem qf9 {C : PR} {n : Nat} (hC : C.Ok n) (hn : (C.map (·.1)).Nodup) : C.length ≤ n := by
 have := zla (L := List.range n) hn fun x hx => by
  obtain ⟨p, hp, rfl⟩ := List.mem_map.1 hx
  exact List.mem_range.2 (hC p hp).1
 rwa [List.length_map, List.length_range] at this
def zmr (D D' : Dsk) (n secs : Nat) (note : Bys) (V : List Bys) (B : Nat) : Prop := qni D D' ∧ Siz D' n secs note V ∧ ∃ h c TS, zwu D' n secs note V B h c TS
theorem zwu.more {D : Dsk} {n secs : Nat} {note : Bys} {V : List Bys} {B B' : Nat} {h : Hd} {c : Nat} {TS : List PR} (R : zwu D n secs note V B h c TS) (hB : B ≤ B') : zwu D n secs note V B' h c TS :=
 ⟨⟨R.log.c01, R.log.hok, R.log.secs, R.log.head, R.log.other, fun i hi hs => ⟨Nat.lt_of_lt_of_le (R.log.sheets i hi hs).1 hB, (R.log.sheets i hi hs).2⟩, R.log.read, Nat.le_trans R.log.first hB⟩, R.hs, R.hnote, Nat.le_trans R.gen hB, R.ts, R.rep⟩
theorem Siz.over {D : Dsk} {n secs : Nat} {note : Bys} {V : List Bys} {C : PR} (z : Siz D n secs note V) (hC : C.Ok n) : Siz D n secs note (zg9 V C) := by
 refine ⟨z.n1, z.n2, z.s1, z.s2, z.note, z.room, by rw [qfd, z.Vl], fun p hp => ?_, z.ok⟩
 obtain ⟨i, hi, rfl⟩ := List.mem_map.1 hp
 have hi := List.mem_range.1 hi
 cases hl : C.lookup i with
 | some b => exact (hC _ (zcm hl)).2
 | none =>
  show (V.getD i []).length = 512
  rw [List.getD_eq_getElem?_getD, List.getElem?_eq_getElem hi]
  exact z.Vs _ (List.getElem_mem hi)
theorem qhd {s : Pg} {D : Dsk} {n secs : Nat} {note : Bys} {V : List Bys} {B : Nat} {TS : List PR} (h : StI s D n secs note V B TS) (hB : B + 1 < 9223372036854775808) :
  ((zqd s D).1 = 0 ∧ zkz D (zqd s D).2.1 ∧ StI { qhc s D with dead := s.dead || decide ((zqd s D).1 = 4) } (zqd s D).2.1 n secs note V (B + 1) []) ∨ ((zqd s D).1 = 4 ∧ zmr D (zqd s D).2.1 n secs note V (B + 1)) := by
 have z := h.siz
 have hroom := z.room
 have hk : ∀ i ∈ s.R, ∃ b, s.K.lookup i = some b ∧ V[i]? = some b := fun i hi => by
  obtain ⟨b, hb⟩ := Option.isSome_iff_exists.1 (h.Rk i hi).1
  exact ⟨b, hb, h.Kv i b hb⟩
 have hmem : ∀ p ∈ wsD s, ∃ i ∈ s.R, p.1 = 2 + secs + i ∧ s.K.lookup i = some p.2 := fun p hp => by
  obtain ⟨q, hq, rfl⟩ := List.mem_map.1 hp
  obtain ⟨i, hi, rfl⟩ := List.mem_map.1 hq
  have hi := zi7.1 hi
  obtain ⟨b, hb, -⟩ := hk i hi
  refine ⟨i, hi, by show 2 + s.g.h.secs + i = _; rw [h.hsecs], ?_⟩
  simp only [hb, Option.getD_some]
 have hin : ∀ i ∈ s.R, 2 + secs + i ∈ (wsD s).map (·.1) := fun i hi => by
  refine List.mem_map.2 ⟨(2 + secs + i, (s.K.lookup i).getD []), ?_, rfl⟩
  rw [← h.hsecs]
  exact List.mem_map.2 ⟨(i, (s.K.lookup i).getD []), List.mem_map.2 ⟨i, zi7.2 hi, rfl⟩, rfl⟩
 have hws : qgy D (wsD s) := fun p hp => by
  obtain ⟨i, hi, h1, h2⟩ := hmem p hp
  have := h.Kok _ (zcm h2)
  have h3 := (h.Rk i hi).2.2
  exact ⟨by omega, this.2⟩
 have hout : ∀ i, i < 2 + secs → ∀ p ∈ wsD s, p.1 ≠ i := fun i hi p hp => by
  obtain ⟨j, -, h1, -⟩ := hmem p hp
  omega
 have hun : ∀ i, i ∉ s.R → ∀ p ∈ wsD s, p.1 ≠ 2 + secs + i := fun i hi p hp he => by
  obtain ⟨j, hj, h1, -⟩ := hmem p hp
  have : j = i := by omega
  exact hi (this ▸ hj)
 have R0 := h.rec' (by omega)
 unfold qhc zqd
 rcases qmv h.rest hws with ⟨e, hl, hon⟩ | ⟨e, hd, hm⟩
 ·have hok1 := zlf z.ok (wsD s)
  simp only [if_pos e]
  generalize zcs D (wsD s) = r at e hl hon hok1 ⊢
  have hlow : ∀ i, i < 2 + secs → r.2.on[i]? = D.on[i]? := fun i hi => by rw [hon]; exact zfg (hout i hi)
  have hlen : r.2.on.length = D.on.length := by rw [hon, zgf]
  have hpg : ∀ i, i < n → r.2.on[2 + secs + i]? = V[i]? := fun i hi => by
   by_cases hiR : i ∈ s.R
   ·obtain ⟨b, hb, hv⟩ := hk i hiR
    rw [hon, zjb (fun j => (s.K.lookup (j - (2 + secs))).getD []) _ _ _ (by omega) fun p hp => by
     obtain ⟨j, -, h1, h2⟩ := hmem p hp
     show p.2 = (s.K.lookup (p.1 - (2 + secs))).getD []
     rw [h1, show 2 + secs + j - (2 + secs) = j by omega, h2]
     rfl]
    rw [if_pos (hin i hiR), show 2 + secs + i - (2 + secs) = i by omega, hb, hv]
    rfl
   ·rw [hon, zfg (hun i hiR)]
    exact h.pages i hi hiR
  have hsame : zg4 D r.2 s.g.h.secs := zpv h.rest.wait hl.rest.wait fun i hi => hlow (2 + i) (by have := h.hsecs; omega)
  have L1 : zv1 r.2 s.g (TS.map zd0) := h.log.ext (fun i hi => (hlow i (by omega)).symm) hsame
  have hnx : s.g.next < 18446744073709551616 := by have := h.next; omega
  have hgn : s.g.h.gen + 1 < 18446744073709551616 := by have := h.gen; omega
  have hok2 := zlf hok1 [(za3 s.g.at_, hdP (zbv s.g))]
  rw [zgq]
  rcases qas hl.rest (by rw [h.hsecs, hlen]; omega) (L1.rec' hnx) hgn hnx (fun i hi hs => (L1.sheets i hi hs).1) with ⟨e2, hl2, L2, h2, hlen2⟩ | ⟨e2, hd2, L2, h2, hlen2⟩
  ·left
   have htg : ({ zkg s.g r.2 with dead := decide ((zcs r.2 [(za3 s.g.at_, hdP (zbv s.g))]).1 = 4) } : Lg) = { s.g with h := zbv s.g, at_ := za3 s.g.at_, used := 0, dead := false } := by
    unfold zkg
    rw [zgq, if_pos e2, e2]
    rfl
   rw [htg]
   generalize zcs r.2 [(za3 s.g.at_, hdP (zbv s.g))] = r2 at e2 hl2 L2 h2 hlen2 hok2 ⊢
   rw [if_pos e2, e2]
   refine ⟨rfl, ⟨hl2.rest, hl2.keep.trans hl.keep, fun h => hl2.left (hl.left h)⟩, ?_⟩
   refine ⟨z.ext hok2 (by rw [hlen2, hlen]), hl2.rest, h.hn, h.hnote, h.hsecs, h.hhnote, L2, (fun _ hh => (nomatch hh)), ?_, h.Kok, h.Kv, (fun _ hh => (nomatch hh)), List.nodup_nil, fun i hi _ => by rw [h2 _ (by omega)]; exact hpg i hi, fun i b hb => (by cases hb), h.Cok, h.Cn, ?_, ?_⟩
   ·show (s.dead || decide ((0 : Nat) = 4)) = false
    rw [h.dead]; rfl
   ·show (zbv s.g).gen ≤ B + 1
    rw [show (zbv s.g).gen = s.g.h.gen + 1 from Nat.mod_eq_of_lt hgn]
    have := h.gen; omega
   ·show s.g.next ≤ B + 1
    have := h.next; omega
  ·right
   generalize zcs r.2 [(za3 s.g.at_, hdP (zbv s.g))] = r2 at e2 hd2 L2 h2 hlen2 hok2 ⊢
   have hpg2 : ∀ i, i < n → r2.2.on[2 + secs + i]? = V[i]? := fun i hi => by rw [h2 _ (by omega), hpg i hi]
   refine ⟨e2, ⟨fun h => hd2.left (hl.left h), hd2.dead, hd2.wait, hd2.left', hd2.keep⟩, z.ext hok2 (by rw [hlen2, hlen]), ?_⟩
   rcases L2 with L2 | L2
   ·refine ⟨s.g.h, s.g.at_, TS, ⟨⟨L2.c01, L2.hok, L2.secs, L2.head, L2.other, fun i hi hs => ⟨Nat.lt_of_lt_of_le (L2.sheets i hi hs).1 (by have := h.next; omega), (L2.sheets i hi hs).2⟩, L2.read, Nat.le_trans L2.first (by have := h.next; omega)⟩, h.hsecs, h.hhnote, by have := h.gen; omega, R0.ts, fun i hi => ?_⟩⟩
    rw [hpg2 i hi]
    cases hlt : zhs TS i with
    | none => rfl
    | some b => exact (h.rep i b hlt).symm
   ·refine ⟨_, _, [], ⟨⟨L2.c01, L2.hok, L2.secs, L2.head, L2.other, fun i hi hs => ⟨Nat.lt_of_lt_of_le (L2.sheets i hi hs).1 (by have := h.next; omega), (L2.sheets i hi hs).2⟩, L2.read, Nat.le_trans L2.first (by have := h.next; omega)⟩, h.hsecs, h.hhnote, by rw [show (zbv s.g).gen = s.g.h.gen + 1 from Nat.mod_eq_of_lt hgn]; have := h.gen; omega, ⟨(fun _ hh => (nomatch hh)), by decide⟩, fun i hi => ?_⟩⟩
    rw [hpg2 i hi]; rfl
 ·right
  have hok1 := zlf z.ok (wsD s)
  have e' : ¬ (zcs D (wsD s)).1 = 0 := by rw [e]; decide
  simp only [if_neg e']
  generalize zcs D (wsD s) = r at e hd hm hok1 ⊢
  refine ⟨e, hd, z.ext hok1 hm.1, s.g.h, s.g.at_, TS, ?_⟩
  refine (R0.pages (D' := r.2) h.rest.wait hd.wait (fun i hi => zs3 hm (hout i hi)) (fun i hi hlt => zs3 hm (hun i fun hR => ?_))).more (by omega)
  have := (h.Rk i hR).2.1
  rw [hlt] at this
  cases this
theorem zz7 {s : Pg} {D : Dsk} {n secs : Nat} {note : Bys} {V : List Bys} {B : Nat} {TS : List PR} (h : StI s D n secs note V B TS) (hB : B + 600 < 9223372036854775808) (hC0 : s.C ≠ []) (hroom : s.g.used + zbb (tC s).length ≤ secs) :
  ((qg0 s D).1 = 0 ∧ zkz D (qg0 s D).2.1 ∧ ∀ x, qi5 (qg0 s D).2.2 x → StI { (qg0 s D).2.2 with K := x.1, R := x.2, C := [] } (qg0 s D).2.1 n secs note (zg9 V s.C) (B + 600) (TS ++ [zdw s.C])) ∨
  ((qg0 s D).1 = 4 ∧ (zmr D (qg0 s D).2.1 n secs note V (B + 600) ∨ zmr D (qg0 s D).2.1 n secs note (zg9 V s.C) (B + 600))) := by
 have z := h.siz
 have hrm := z.room
 have hsz := h.hsecs
 have hs2 := z.s2
 have hrn : zdw s.C ≠ [] := fun hc => hC0 (List.eq_nil_of_length_eq_zero (by rw [← zpl, hc]; rfl))
 have htn : tC s ≠ [] := qhj hrn
 have hCl := qf9 h.Cok h.Cn
 have hro : (zdw s.C).Ok n ∧ zdw s.C ≠ [] ∧ (zdw s.C).length ≤ 1024 := ⟨zsf h.Cok, hrn, by rw [zpl]; have := z.n2; omega⟩
 have hTS' : (TS ++ [zdw s.C]).map zd0 = TS.map zd0 ++ [tC s] := by rw [List.map_append]; rfl
 have hlast : ∀ i, zhs (TS ++ [zdw s.C]) i = (s.C.lookup i).or (zhs TS i) := fun i => by rw [zjm, qiy]
 have hVl := z.Vl
 have hov : ∀ i, i < n → (zg9 V s.C)[i]? = (s.C.lookup i).or V[i]? := fun i hi => zz0 (by omega)
 have hcm : qkk D s.g (tC s) = zcs D (wsC s.g (tC s)) := by
  rw [qkk, if_neg (by omega), if_neg (by omega)]
 have hnx : s.g.next + zbb (tC s).length < 18446744073709551616 := by have := h.next; omega
 have R0 := h.rec' (by omega)
 have hok1 := zlf z.ok (wsC s.g (tC s))
 have hcb := qci h.rest h.log (by rw [hsz]; omega) htn (by rw [hsz]; exact hroom) hnx
 unfold qg0
 rw [hcm]
 have hcg : qql D s.g (tC s) = if (zcs D (wsC s.g (tC s))).1 = 0 then { s.g with next := s.g.next + zbb (tC s).length, used := s.g.used + zbb (tC s).length } else s.g := by rw [qql, hcm]
 rw [hcg]
 have hlt2 : ∀ i b, (zhs (TS ++ [zdw s.C]) i) = some b → (zg9 V s.C)[i]? = some b := fun i b hb => by
  rw [hlast] at hb
  cases hl : s.C.lookup i with
  | some b' =>
   rw [hl] at hb
   rw [hov i (h.Cok _ (zcm hl)).1, hl]
   exact hb
  | none =>
   rw [hl] at hb
   have hv := h.rep i b hb
   have hi : i < n := by
    have := (List.getElem?_eq_some_iff.1 hv).1
    omega
   rw [hov i hi, hl]
   exact hv
 rcases hcb with ⟨e, hl, L2, hhi, hlen⟩ | ⟨e, hd, L2, hhi, hlen⟩
 ·left
  generalize zcs D (wsC s.g (tC s)) = r at e hl L2 hhi hlen hok1 ⊢
  have hg2 : ({ (if r.1 = 0 then { s.g with next := s.g.next + zbb (tC s).length, used := s.g.used + zbb (tC s).length } else s.g : Lg) with dead := decide (r.1 = 4) } : Lg) = { s.g with next := s.g.next + zbb (tC s).length, used := s.g.used + zbb (tC s).length, dead := false } := by
   rw [if_pos e, e]; rfl
  rw [hg2]
  refine ⟨e, hl, fun x hx => ?_⟩
  obtain ⟨k1, k2, k3, k4⟩ := hx
  simp only at k1 k2 k3 k4
  refine ⟨(z.ext hok1 hlen).over h.Cok, hl.rest, h.hn, h.hnote, h.hsecs, h.hhnote, by rw [hTS']; exact L2, fun Q hQ => ?_, ?_, by rw [← h.hn]; exact k3, fun i b hb => ?_, fun i hi => ?_, k4 h.Rn, fun i hi hiR => ?_, hlt2, (fun _ hh => (nomatch hh)), List.nodup_nil, ?_, ?_⟩
  ·rcases List.mem_append.1 hQ with hQ | hQ
   ·exact h.ts Q hQ
   ·rw [List.mem_singleton] at hQ
    subst hQ
    exact hro
  ·show (s.dead || decide (r.1 = 4)) = false
   rw [h.dead, e]; rfl
  ·have hi : i < n := by rw [← h.hn]; exact (k3 _ (zcm hb)).1
   have hb : x.1.lookup i = some b := hb
   rw [k1] at hb
   rw [hov i hi]
   cases hl' : s.C.lookup i with
   | some b' => rw [hl'] at hb; exact hb
   | none => rw [hl'] at hb; exact h.Kv i b hb
  ·have hi : i ∈ x.2 := hi
   rw [hlast]
   show (x.1.lookup i).isSome = true ∧ _
   rw [k1]
   rcases (k2 i).1 hi with h1 | h1
   ·obtain ⟨a1, a2, a3⟩ := h.Rk i h1
    refine ⟨?_, ?_, a3⟩
    ·cases s.C.lookup i with
     | some b => rfl
     | none => exact a1
    ·cases s.C.lookup i with
     | some b => rfl
     | none => exact a2
   ·obtain ⟨b, hb⟩ := Option.isSome_iff_exists.1 h1
    rw [hb]
    exact ⟨rfl, rfl, (h.Cok _ (zcm hb)).1⟩
  ·have hiR : i ∉ x.2 := hiR
   rw [k2] at hiR
   rw [hhi _ (by omega), hov i hi]
   have hc : s.C.lookup i = none := by
    cases hl' : s.C.lookup i with
    | none => rfl
    | some b => exact absurd (.inr (by rw [hl']; rfl)) hiR
   rw [hc]
   exact h.pages i hi fun hR => hiR (.inl hR)
  ·show s.g.h.gen ≤ B + 600
   have := h.gen; omega
  ·show s.g.next + zbb (tC s).length ≤ B + 600
   have := h.next; omega
 ·right
  generalize zcs D (wsC s.g (tC s)) = r at e hd L2 hhi hlen hok1 ⊢
  refine ⟨e, ?_⟩
  have hbd : s.g.next + zbb (tC s).length ≤ B + 600 := by have := h.next; omega
  rcases L2 with L2 | L2
  ·left
   refine ⟨hd, z.ext hok1 hlen, s.g.h, s.g.at_, TS, ⟨⟨L2.c01, L2.hok, L2.secs, L2.head, L2.other, fun i hi hs => ⟨Nat.lt_of_lt_of_le (L2.sheets i hi hs).1 hbd, (L2.sheets i hi hs).2⟩, L2.read, Nat.le_trans L2.first hbd⟩, h.hsecs, h.hhnote, by have := h.gen; omega, R0.ts, fun i hi => ?_⟩⟩
   rw [hhi _ (by omega)]
   exact R0.rep i hi
  ·right
   have hmany : (TS ++ [zdw s.C]).length ≤ 512 := by
    have h1 := h.log.many
    have h2 := zo7 (tC s).length
    rw [List.length_map] at h1
    rw [List.length_append, List.length_singleton]
    omega
   refine ⟨hd, (z.ext hok1 hlen).over h.Cok, s.g.h, s.g.at_, TS ++ [zdw s.C], ⟨⟨L2.c01, L2.hok, L2.secs, L2.head, L2.other, fun i hi hs => ⟨Nat.lt_of_lt_of_le (L2.sheets i hi hs).1 hbd, (L2.sheets i hi hs).2⟩, by rw [hTS']; exact L2.read, Nat.le_trans L2.first hbd⟩, h.hsecs, h.hhnote, by have := h.gen; omega, ⟨fun Q hQ => ?_, hmany⟩, fun i hi => ?_⟩⟩
   ·rcases List.mem_append.1 hQ with hQ | hQ
    ·exact h.ts Q hQ
    ·rw [List.mem_singleton] at hQ
     subst hQ
     exact hro
   ·rw [hhi _ (by omega)]
    cases hlt : zhs (TS ++ [zdw s.C]) i with
    | some b => exact (hlt2 i b hlt).symm
    | none =>
     rw [hlast] at hlt
     have hc : s.C.lookup i = none ∧ zhs TS i = none := by
      cases hl' : s.C.lookup i with
      | some b => rw [hl'] at hlt; cases hlt
      | none => rw [hl'] at hlt; exact ⟨rfl, hlt⟩
     have := R0.rep i hi
     rw [hc.2] at this
     rw [hov i hi, hc.1]
     exact this
theorem zkz.trans {D D1 D2 : Dsk} (h : zkz D D1) (h' : zkz D1 D2) : zkz D D2 := ⟨h'.rest, h'.keep.trans h.keep, fun hl => h'.left (h.left hl)⟩
theorem zmr.trans {D D1 D2 : Dsk} {n secs : Nat} {note : Bys} {V : List Bys} {B : Nat} (h : zkz D D1) (h' : zmr D1 D2 n secs note V B) : zmr D D2 n secs note V B :=
 ⟨⟨fun hl => h'.1.left (h.left hl), h'.1.dead, h'.1.wait, h'.1.left', h'.1.keep⟩, h'.2⟩
theorem zmr.more {D D' : Dsk} {n secs : Nat} {note : Bys} {V : List Bys} {B B' : Nat} (h : zmr D D' n secs note V B) (hB : B ≤ B') : zmr D D' n secs note V B' := by
 obtain ⟨a, b, hd, c, TS, R⟩ := h
 exact ⟨a, b, hd, c, TS, R.more hB⟩
theorem StI.more {s : Pg} {D : Dsk} {n secs : Nat} {note : Bys} {V : List Bys} {B B' : Nat} {TS : List PR} (h : StI s D n secs note V B TS) (hB : B ≤ B') : StI s D n secs note V B' TS :=
 ⟨h.siz, h.rest, h.hn, h.hnote, h.hsecs, h.hhnote, h.log, h.ts, h.dead, h.Kok, h.Kv, h.Rk, h.Rn, h.pages, h.rep, h.Cok, h.Cn, Nat.le_trans h.gen hB, Nat.le_trans h.next hB⟩
def StV (s : Pg) (D : Dsk) (n secs : Nat) (note : Bys) (V : List Bys) (B : Nat) : Prop := ∃ TS, StI s D n secs note V B TS
structure Off (D : Dsk) (n secs : Nat) (note : Bys) (V : List Bys) (B : Nat) : Prop where
 dead : D.dead = true
 wait : D.wait = []
 left : D.left = none
 keep : D.keep = []
 siz : Siz D n secs note V
 has : ∃ h c TS, zwu D n secs note V B h c TS
theorem zmr.off {D D' : Dsk} {n secs : Nat} {note : Bys} {V : List Bys} {B : Nat} (h : zmr D D' n secs note V B) : Off D' n secs note V B :=
 ⟨h.1.dead, h.1.wait, h.1.left', h.1.keep, h.2.1, h.2.2⟩
theorem Off.start {D : Dsk} {n secs : Nat} {note : Bys} {V : List Bys} {B : Nat} (h : Off D n secs note V B) : Dsk.Rest { D with dead := false } ∧ Siz { D with dead := false } n secs note V ∧ ∃ hd c TS, zwu { D with dead := false } n secs note V B hd c TS := by
 refine ⟨⟨rfl, h.wait⟩, h.siz.ext ⟨h.siz.ok.size, h.siz.ok.wsize, h.siz.ok.many, h.siz.ok.left⟩ rfl, ?_⟩
 obtain ⟨hd, c, TS, R⟩ := h.has
 exact ⟨hd, c, TS, R.pages (D' := { D with dead := false }) h.wait h.wait (fun i _ => rfl) (fun i _ _ => rfl)⟩
theorem qkt {s : Pg} {D : Dsk} {n secs : Nat} {note : Bys} {V : List Bys} {B : Nat} (h : StV s D n secs note V B) (hB : B + 700 < 9223372036854775808) (hC0 : s.C ≠ []) (hneed : zbb (tC s).length ≤ secs) :
  ((cmF s D).1 = 0 ∧ zkz D (cmF s D).2.1 ∧ ∀ x, qi5 (cmF s D).2.2 x → StV (cmR s D x) (cmF s D).2.1 n secs note (zg9 V s.C) (B + 601)) ∨
  ((cmF s D).1 = 4 ∧ (zmr D (cmF s D).2.1 n secs note V (B + 601) ∨ zmr D (cmF s D).2.1 n secs note (zg9 V s.C) (B + 601))) := by
 obtain ⟨TS, h⟩ := h
 have hsz := h.hsecs
 have hul := h.log.usedle
 unfold cmR cmF
 by_cases hl : s.g.h.secs - s.g.used < zbb (tC s).length
 ·have e1 : qjw s D = ((zqd s D).1, (zqd s D).2.1, { qhc s D with dead := s.dead || decide ((zqd s D).1 = 4) }) := by unfold qjw; rw [if_pos hl]
  rw [e1]
  simp only
  rcases qhd h (by omega) with ⟨o1, o2, o3⟩ | ⟨o1, o2⟩
  ·simp only [if_pos o1]
   have ht : tC { qhc s D with dead := s.dead || decide ((zqd s D).1 = 4) } = tC s := rfl
   have hg0 : (zqd s D).2.2.used = 0 := by
    have := o3.log.next
    have h2 := o3.log.used
    have e2 : zkk ({ qhc s D with dead := s.dead || decide ((zqd s D).1 = 4) } : Pg).g.h.first [] = ({ qhc s D with dead := s.dead || decide ((zqd s D).1 = 4) } : Pg).g.h.first := rfl
    rw [List.map_nil, e2] at this
    have e3 : ({ qhc s D with dead := s.dead || decide ((zqd s D).1 = 4) } : Pg).g = (zqd s D).2.2 := rfl
    rw [e3] at this h2
    omega
   have hC' : ({ qhc s D with dead := s.dead || decide ((zqd s D).1 = 4) } : Pg).C = s.C := rfl
   rcases zz7 o3 (by omega) (by rw [hC']; exact hC0) (by rw [ht]; show (zqd s D).2.2.used + _ ≤ _; omega) with ⟨l1, l2, l3⟩ | ⟨l1, l2⟩
   ·left
    refine ⟨l1, o2.trans l2, fun x hx => ?_⟩
    rw [if_pos l1]
    exact ⟨_, l3 x hx⟩
   ·right
    refine ⟨l1, ?_⟩
    rcases l2 with l2 | l2
    ·exact .inl (l2.trans o2)
    ·exact .inr (l2.trans o2)
  ·right
   rw [if_neg (by rw [o1]; decide)]
   exact ⟨o1, .inl (o2.more (by omega))⟩
 ·have e1 : qjw s D = (0, D, s) := by unfold qjw; rw [if_neg hl]
  rw [e1]
  simp only [if_true]
  rcases zz7 h (by omega) hC0 (by omega) with ⟨l1, l2, l3⟩ | ⟨l1, l2⟩
  ·left
   refine ⟨l1, l2, fun x hx => ?_⟩
   rw [if_pos l1]
   exact ⟨_, (l3 x hx).more (by omega)⟩
  ·right
   exact ⟨l1, l2.imp (fun h => h.more (by omega)) (fun h => h.more (by omega))⟩
end Go.Proofs.YtkkfifhaobjicaaGreatDoor
namespace Go.Proofs.YtkkfifhaobjicaaGreatDoor
open Go.Eng.Bm
set_option maxRecDepth 100000
def zfr (V : List Bys) (C : PR) (i : Nat) : Bys := (C.lookup i).getD (V.getD i [])
theorem StI.ok {s : Pg} {D : Dsk} {n secs : Nat} {note : Bys} {V : List Bys} {B : Nat} {TS : List PR} (h : StI s D n secs note V B TS) : s.Ok D := by
 have z := h.siz
 have h1 := z.n2
 have h2 := z.s2
 have h3 := z.room
 exact ⟨by rw [h.hn]; exact h1, by rw [h.hsecs]; omega, by rw [h.hn, h.hsecs]; exact h3, by rw [h.hn]; exact h.Cok, by rw [h.hn]; exact h.Kok⟩
theorem StI.cur {s : Pg} {D : Dsk} {n secs : Nat} {note : Bys} {V : List Bys} {B : Nat} {TS : List PR} (h : StI s D n secs note V B TS) {i : Nat} (hi : i < n) (hR : i ∉ s.R) : zch D (2 + s.g.h.secs + i) = V.getD i [] := by
 rw [zfh h.rest.wait, List.getD_eq_getElem?_getD, List.getD_eq_getElem?_getD, h.hsecs, h.pages i hi hR]
theorem StI.view {s : Pg} {D : Dsk} {n secs : Nat} {note : Bys} {V : List Bys} {B : Nat} {TS : List PR} (h : StI s D n secs note V B TS) {i : Nat} (hi : i < n) : pageB s D i = zfr V s.C i := by
 unfold pageB zfr
 cases hc : s.C.lookup i with
 | some b => rfl
 | none =>
  cases hk : s.K.lookup i with
  | some b =>
   show b = V.getD i []
   rw [List.getD_eq_getElem?_getD, h.Kv i b hk]; rfl
  | none => exact h.cur hi fun hR => by have := (h.Rk i hR).1; rw [hk] at this; cases this
theorem StI.page {s : Pg} {D : Dsk} {n secs : Nat} {note : Bys} {V : List Bys} {B : Nat} {TS : List PR} (h : StI s D n secs note V B TS) {i : Nat} (hi : i < n) : StI (zc4 s D i) D n secs note V B TS := by
 unfold zc4
 split
 ·exact h
 ·rename_i hn
  have hk : s.K.lookup i = none := by
   cases hk : s.K.lookup i with
   | none => rfl
   | some b => rw [hk] at hn; cases hc : s.C.lookup i <;> rw [hc] at hn <;> exact absurd rfl hn
  have hR : i ∉ s.R := fun hR => by have := (h.Rk i hR).1; rw [hk] at this; cases this
  have hcu := h.cur hi hR
  have hVl := h.siz.Vl
  have hV : V[i]? = some (V.getD i []) := by rw [List.getD_eq_getElem?_getD, List.getElem?_eq_getElem (by omega)]; rfl
  refine ⟨h.siz, h.rest, h.hn, h.hnote, h.hsecs, h.hhnote, h.log, h.ts, h.dead, ?_, fun j b hj => ?_, fun j hj => ?_, h.Rn, h.pages, h.rep, h.Cok, h.Cn, h.gen, h.next⟩
  ·exact h.Kok.ins hi (by rw [hcu]; exact h.siz.Vs _ (List.mem_of_getElem? hV))
  ·have hj : (zep s.K i (zch D (2 + s.g.h.secs + i))).lookup j = some b := hj
   rw [zc5] at hj
   by_cases hji : j = i
   ·rw [if_pos hji] at hj
    cases hj
    rw [hji, hcu]; exact hV
   ·rw [if_neg hji] at hj
    exact h.Kv j b hj
  ·obtain ⟨a1, a2, a3⟩ := h.Rk j hj
   refine ⟨?_, a2, a3⟩
   show ((zep s.K i (zch D (2 + s.g.h.secs + i))).lookup j).isSome = true
   rw [zc5]
   split
   ·rfl
   ·exact a1
theorem zpc (s : Pg) (D : Dsk) (i : Nat) : (zc4 s D i).C = s.C := by unfold zc4; split <;> rfl
theorem ql8 (s : Pg) (D : Dsk) (i : Nat) : (zc4 s D i).b = s.b := by unfold zc4; split <;> rfl
theorem zl1 {A : PR} {i : Nat} {b : Bys} (h : (A.map (·.1)).Nodup) : ((zep A i b).map (·.1)).Nodup := by
 unfold zep
 split
 ·have e : (A.map fun p => if p.1 = i then (i, b) else p).map (·.1) = A.map (·.1) := by
   rw [List.map_map]
   refine List.map_congr_left fun p _ => ?_
   show (if p.1 = i then (i, b) else p).1 = p.1
   split
   ·rename_i hp; exact hp.symm
   ·rfl
  rw [e]; exact h
 ·rename_i hn
  rw [List.map_append, List.nodup_append]
  refine ⟨h, by simp, fun x hx y hy => ?_⟩
  simp only [List.map_cons, List.map_nil, List.mem_singleton] at hy
  subst hy
  rintro rfl
  exact hn (zcf.2 hx)
theorem StI.setC {s : Pg} {D : Dsk} {n secs : Nat} {note : Bys} {V : List Bys} {B : Nat} {TS : List PR} (h : StI s D n secs note V B TS) {C : PR} (hC : C.Ok n) (hn : (C.map (·.1)).Nodup) : StI { s with C := C } D n secs note V B TS :=
 ⟨h.siz, h.rest, h.hn, h.hnote, h.hsecs, h.hhnote, h.log, h.ts, h.dead, h.Kok, h.Kv, h.Rk, h.Rn, h.pages, h.rep, hC, hn, h.gen, h.next⟩
theorem StI.ins {s : Pg} {D : Dsk} {n secs : Nat} {note : Bys} {V : List Bys} {B : Nat} {TS : List PR} (h : StI s D n secs note V B TS) {i : Nat} {b : Bys} (hi : i < n) (hb : b.length = 512) : StI { s with C := zep s.C i b } D n secs note V B TS :=
 h.setC (h.Cok.ins hi hb) (zl1 h.Cn)
theorem znv (V : List Bys) (C : PR) (i j : Nat) (b : Bys) : zfr V (zep C i b) j = if j = i then b else zfr V C j := by
 unfold zfr
 rw [zc5]
 split <;> rfl
theorem qcy {V : List Bys} {C : PR} {i : Nat} (hi : i < V.length) : (zg9 V C).getD i [] = zfr V C i := by
 rw [List.getD_eq_getElem?_getD, zz0 hi]
 unfold zfr
 rw [List.getD_eq_getElem?_getD, List.getElem?_eq_getElem hi]
 cases C.lookup i <;> rfl
theorem qgo {V : List Bys} {C C' : PR} (h : ∀ i, C.lookup i = C'.lookup i) : zg9 V C = zg9 V C' := by
 unfold zg9
 exact List.map_congr_left fun i _ => by rw [h i]
theorem qfe {A A' : PR} (h : ∀ i, A.lookup i = A'.lookup i) (hn : (A.map (·.1)).Nodup) (hn' : (A'.map (·.1)).Nodup) : A.length = A'.length := by
 have h1 : A.length ≤ A'.length := by
  have := zla hn (L := A'.map (·.1)) fun x hx => zcf.1 (by rw [← h]; exact zcf.2 hx)
  simpa using this
 have h2 : A'.length ≤ A.length := by
  have := zla hn' (L := A.map (·.1)) fun x hx => zcf.1 (by rw [h]; exact zcf.2 hx)
  simpa using this
 omega
def qeb (n : Nat) (b : Bys) (S : Nat → Bool) : Prop := b = bmB n S ∧ zqk n S ∧ S 0 = true
theorem zvt {n : Nat} {S : Nat → Bool} {i : Nat} {u : Bool} (h : zqk n S) (hi : i < n) : zqk n (upd S i u) := fun j hj => by
 unfold upd
 rw [if_neg (by omega)]
 exact h j hj
theorem qqk {s : Pg} {n : Nat} (h : s.C.Ok n) (h0 : s.C ≠ []) : zbb (tC s).length = (514 * s.C.length + 496) / 497 := by
 have := zol (zsf h)
 rw [zpl] at this
 rw [show (tC s).length = 514 * s.C.length from this]
 have h1 : 0 < s.C.length := List.length_pos_iff.2 h0
 unfold zbb
 omega
end Go.Proofs.YtkkfifhaobjicaaGreatDoor
namespace Go.Proofs.YtkkfifhaobjicaaGreatDoor
open Go.Eng.Bm
set_option maxRecDepth 100000
def zvs : Bys := List.replicate 512 0
theorem qgg : zqm zvs = false := by decide +kernel
theorem qhf : zid zvs = false := by decide +kernel
theorem qlo : (List.range 512).map (fun j => UInt8.ofNat (byte (upd noU 0 true) j)) = 1 :: List.replicate 511 0 := by decide +kernel
theorem qoy (n : Nat) (h : 1 ≤ n) : bm0 n = 1 :: List.replicate 511 0 := by
 rw [← qlo]
 unfold bm0 bmB
 refine List.map_congr_left fun j _ => ?_
 have : zdm (upd noU 0 true) n = upd noU 0 true := funext fun i => by
  unfold zdm upd
  by_cases hi : i = 0
  ·rw [if_pos hi, hi, Bool.and_true]; exact decide_eq_true (by omega)
  ·rw [if_neg hi]; exact Bool.and_false _
 rw [this]
theorem qjn (n : Nat) (h : 1 ≤ n) : qeb n (bm0 n) (upd noU 0 true) := by
 refine ⟨rfl, fun j hj => ?_, rfl⟩
 unfold upd
 rw [if_neg (by omega)]; rfl
def V0 (n : Nat) : List Bys := (List.range n).map fun i => if i = 0 then bm0 n else zdr
theorem qjk (n : Nat) : (V0 n).length = n := by simp [V0]
theorem qij {n i : Nat} (h : i < n) : (V0 n)[i]? = some (if i = 0 then bm0 n else zdr) := by
 unfold V0
 rw [List.getElem?_map, List.getElem?_range h]; rfl
theorem qo8 {n : Nat} : ∀ p ∈ V0 n, p.length = 512 := fun p hp => by
 obtain ⟨i, -, rfl⟩ := List.mem_map.1 hp
 split
 ·exact zo2 _ _
 ·exact List.length_replicate
theorem qd6 {D : Dsk} (hw : D.wait = []) (h : ∀ i, i < 2 → D.on[i]? = some zvs) : zdb D 2 = (zyl, -1) := by
 have e : ∀ i, i < 2 → zqm (zch D i) = false := fun i hi => by
  rw [Dsk.cur hw (h i hi)]; exact qgg
 unfold zdb zdb zdb zie
 rw [e 0 (by decide), e 1 (by decide)]
 rfl
theorem zob {D : Dsk} {n : Nat} (hw : D.wait = []) (h : ∀ i, i < n → D.on[2 + i]? = some zvs) : ∀ i, i < n → zd4 D n i = false := fun i hi => by
 unfold zd4
 rw [Dsk.cur hw (h i hi), qhf]; rfl
theorem zsg {D : Dsk} {n : Nat} (h : ∀ i, i < n → zd4 D n i = false) : ∀ i, i ≤ n → zbj D n i = []
 | 0, _ => rfl
 | i + 1, hi => by
  rw [zbj, if_neg (by rw [show (zid (zch D (2 + i)) && decide (zbh (zf6 (zch D (2 + i))).seq n = 2 + i)) = zd4 D n i from rfl, h i (by omega)]; decide)]
  exact zsg h i (by omega)
theorem qle {N i : Nat} (h : i < N) : (zt9 N).on[i]? = some zvs := by
 show (List.replicate N (List.replicate 512 0))[i]? = _
 rw [List.getElem?_replicate, if_pos h]; rfl
theorem qlb {N log n : Nat} {note : Bys} (hN : N ≤ 4096) (hl1 : 1 ≤ log) (hlg : log ≤ 512) (hn1 : 64 ≤ n) (hn2 : n ≤ 1024) (hno : note.length ≤ 40) (hroom : 2 + log + n ≤ N) :
  (qcp (zt9 N) log n note).1 = 0 ∧ (qcp (zt9 N) log n note).2.Rest ∧ (qcp (zt9 N) log n note).2.left = none ∧ (qcp (zt9 N) log n note).2.keep = [] ∧ Siz (qcp (zt9 N) log n note).2 n log note (V0 n) ∧ ∃ h, zwu (qcp (zt9 N) log n note).2 n log note (V0 n) 1 h 1 [] := by
 have hr : (zt9 N).Rest := ⟨rfl, rfl⟩
 have hlen : (zt9 N).on.length = N := List.length_replicate
 have hok : (zt9 N).Ok := qcv hN
 have hws : qgy (zt9 N) (zgw log n) := fun p hp => by
  obtain ⟨i, hi, rfl⟩ := List.mem_map.1 hp
  have hi := List.mem_range.1 hi
  refine ⟨by show 2 + log + i < _; omega, ?_⟩
  show (if i = 0 then bm0 n else zdr).length = 512
  split
  ·exact zo2 _ _
  ·exact List.length_replicate
 have hout : ∀ i, i < 2 + log → ∀ p ∈ zgw log n, p.1 ≠ i := fun i hi p hp => by
  obtain ⟨j, -, rfl⟩ := List.mem_map.1 hp
  show 2 + log + j ≠ i
  omega
 unfold qcp
 rcases qmv hr hws with ⟨e, hl, hon⟩ | ⟨-, hd, -⟩
 ·have hok1 := zlf hok (zgw log n)
  rw [if_pos e]
  generalize zcs (zt9 N) (zgw log n) = r at e hl hon hok1 ⊢
  have hlow : ∀ i, i < 2 + log → r.2.on[i]? = some zvs := fun i hi => by
   rw [hon, zfg (hout i hi)]
   exact qle (by omega)
  have hlen1 : r.2.on.length = N := by rw [hon, zgf, hlen]
  have hpg : ∀ i, i < n → r.2.on[2 + log + i]? = (V0 n)[i]? := fun i hi => by
   rw [qij hi, hon, zjb (fun j => if j - (2 + log) = 0 then bm0 n else zdr) _ _ _ (by omega) fun p hp => by
    obtain ⟨j, -, rfl⟩ := List.mem_map.1 hp
    show _ = if 2 + log + j - (2 + log) = 0 then _ else _
    rw [show 2 + log + j - (2 + log) = j by omega]]
   have hmem : 2 + log + i ∈ (zgw log n).map (·.1) := List.mem_map.2 ⟨_, List.mem_map.2 ⟨i, List.mem_range.2 hi, rfl⟩, rfl⟩
   rw [if_pos hmem, show 2 + log + i - (2 + log) = i by omega]
  have hlk : zdb r.2 2 = (zyl, -1) := qd6 hl.rest.wait fun i hi => hlow i (by omega)
  have hsn := zob (D := r.2) (n := log) hl.rest.wait fun i hi => hlow (2 + i) (by omega)
  have hrd := zsg hsn log (Nat.le_refl _)
  have hnh : qb9 r.2 log (beN 2 n ++ note) = ⟨1, 1, log, beN 2 n ++ note⟩ := by
   unfold qb9
   rw [hlk, ← zny, hrd]
   rfl
  have hh : Hd.Ok ⟨1, 1, log, beN 2 n ++ note⟩ := ⟨by show 1 < 18446744073709551616; decide, by show 1 < 18446744073709551616; decide, by show log < 65536; omega, by show (beN 2 n ++ note).length ≤ 64; rw [List.length_append, zao]; omega⟩
  rw [hlk, hnh, show za3 ((zyl, (-1 : Int)).2) = 1 from rfl, zgq]
  have hws2 : qgy r.2 [(1, hdP ⟨1, 1, log, beN 2 n ++ note⟩)] := fun p hp => by
   rw [List.mem_singleton] at hp
   subst hp
   exact ⟨by show 1 < _; omega, ztr hh.note⟩
  rcases qmv hl.rest hws2 with ⟨e2, hl2, hon2⟩ | ⟨-, hd2, -⟩
  ·have hok2 := zlf hok1 [(1, hdP ⟨1, 1, log, beN 2 n ++ note⟩)]
   generalize zcs r.2 [(1, hdP ⟨1, 1, log, beN 2 n ++ note⟩)] = r2 at e2 hl2 hon2 hok2 ⊢
   have hother : ∀ i, i ≠ 1 → r2.2.on[i]? = r.2.on[i]? := fun i hi => by
    rw [hon2]
    exact zfg fun p hp => by
     rw [List.mem_singleton] at hp
     subst hp
     exact hi.symm
   have hsn2 := zob (D := r2.2) (n := log) hl2.rest.wait fun i hi => by rw [hother _ (by omega)]; exact hlow (2 + i) (by omega)
   have hrd2 := zsg hsn2 log (Nat.le_refl _)
   refine ⟨e2, hl2.rest, hl2.left (hl.left rfl), hl2.keep.trans hl.keep, ⟨hn1, hn2, hl1, hlg, hno, by rw [hon2, zgf, hlen1]; exact hroom, qjk n, qo8, hok2⟩, _, ⟨⟨.inr rfl, hh, hl1, ?_, fun h0 => ?_, fun i hi hs => ?_, ?_, Nat.le_refl _⟩, rfl, rfl, Nat.le_refl _, ⟨(fun _ hh => (nomatch hh)), by decide⟩, fun i hi => ?_⟩⟩
   ·rw [hon2]
    exact List.getElem?_set_self (by omega)
   ·rw [List.getD_eq_getElem?_getD, hother 0 (by decide), hlow 0 (by omega)] at h0
    rw [show (some zvs).getD [] = zvs from rfl, qgg] at h0
    cases h0
   ·rw [hsn2 i hi] at hs
    cases hs
   ·show ztq r2.2 ⟨1, 1, log, beN 2 n ++ note⟩ = []
    unfold ztq
    show zcv (zbj r2.2 log log) ((zbj r2.2 log log).length + 1) 1 [] [] = []
    rw [hrd2]
    rfl
   ·rw [hother _ (by omega), hpg i hi]; rfl
  ·exact absurd (hl.left rfl) hd2.left
 ·exact absurd rfl hd.left
end Go.Proofs.YtkkfifhaobjicaaGreatDoor
namespace Go.Proofs.YtkkfifhaobjicaaGreatDoor
open Go.RowKit Go.Eng Go.Eng.Bm
set_option maxRecDepth 100000
set_option maxHeartbeats 40000000
def qkb (s : Bys) : Value := .string ⟨s.toArray⟩
abbrev mC (b : Nat) (C : PR) : Eng.Item := zd6 .i64 b (toG qkb C)
abbrev wV (b c : Nat) (V : List Bys) (pm : Nat) : Value := .agg #[.slice (some ⟨b, 0, none⟩) V.length c, .map (some pm)]
theorem zw7 (w : World) : Pu Tryz.prog 96 #[] w (qkb zdr) := by
 refine zbl [] Tryz.func96 rfl rfl ?_
 simp only [zaa]
 refine goA ?_
 refine za0 rfl (zwt rfl rfl rfl rfl rfl (by decide)) fun ⟨b1, hb1⟩ => ?_
 refine goA ?_
 refine l_w rfl (zrz (bs := zdr) rfl rfl rfl rfl (fun w' hw' => .inr ⟨b1, 0, rfl, by have := za7 (hw'.get (b := b1) (.head _)); rwa [qn3] at this⟩)) ?_
 refine goA ?_
 exact zc2 rfl rfl rfl
end Go.Proofs.YtkkfifhaobjicaaGreatDoor
