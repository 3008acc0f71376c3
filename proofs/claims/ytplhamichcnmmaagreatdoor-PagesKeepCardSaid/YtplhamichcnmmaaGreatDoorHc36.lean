/- The plain law of the store: a commit, done or cut off. -/
/- The plain law of the store: Commit; what a disk has that is off. -/
/- The plain law of the store: what is done in memory. -/
import Derived.Test.YtplhamichcnmmaaGreatDoorHc35
namespace Go.Proofs.YtplhamichcnmmaaGreatDoor
set_option maxRecDepth 100000
def overV (V : List Bys) (C : PR) : List Bys := (List.range V.length).map fun i => (C.lookup i).getD (V.getD i [])
theorem overV_len (V : List Bys) (C : PR) : (overV V C).length = V.length := by simp [overV]
theorem overV_at {V : List Bys} {C : PR} {i : Nat} (h : i < V.length) : (overV V C)[i]? = (C.lookup i).or V[i]? := by
  have e : (overV V C)[i]? = some ((C.lookup i).getD (V.getD i [])) := by
    unfold overV
    rw [List.getElem?_map, List.getElem?_range h]
    rfl
  rw [e, List.getD_eq_getElem?_getD, List.getElem?_eq_getElem h]
  cases C.lookup i <;> rfl
theorem img_fun {f : Nat → Option Bys} : ∀ (R A : PR) (i : Nat), (∀ p ∈ R, f p.1 = some p.2) → (imgF A R).lookup i = if i ∈ R.map (·.1) then f i else A.lookup i
  | [], A, i, _ => by simp [imgF]
  | p :: R, A, i, h => by
    show (imgF (insG A p.1 p.2) R).lookup i = _
    rw [img_fun R _ i fun q hq => h q (.tail _ hq), insG_lookup]
    by_cases h1 : i ∈ R.map (·.1)
    · rw [if_pos h1, if_pos (by rw [List.map_cons]; exact .tail _ h1)]
    · rw [if_neg h1]
      by_cases h2 : i = p.1
      · rw [if_pos h2, if_pos (by rw [List.map_cons, h2]; exact .head _), h2, h p (.head _)]
      · rw [if_neg h2, if_neg (by rw [List.map_cons, List.mem_cons]; rintro (h3 | h3); exact h2 h3; exact h1 h3)]
theorem img_rows (C : PR) (i : Nat) : (imgF [] (rowsS C)).lookup i = C.lookup i := by
  rw [img_fun (f := fun i => C.lookup i) _ _ _ fun p hp => rowsS_mem hp]
  by_cases h : (C.lookup i).isSome = true
  · rw [if_pos (rowsS_keys.2 h)]
  · rw [if_neg (fun hc => h (rowsS_keys.1 hc))]
    cases hl : C.lookup i with
    | none => rfl
    | some b => rw [hl] at h; exact absurd rfl h
theorem rowsS_len (C : PR) : (rowsS C).length = C.length := by rw [rowsS, List.length_map, srtN_len, List.length_map]
theorem keys_le {C : PR} {n : Nat} (hC : C.Ok n) (hn : (C.map (·.1)).Nodup) : C.length ≤ n := by
  have := nodup_le (L := List.range n) hn fun x hx => by
    obtain ⟨p, hp, rfl⟩ := List.mem_map.1 hx
    exact List.mem_range.2 (hC p hp).1
  rwa [List.length_map, List.length_range] at this
def DiedV (D D' : Dsk) (n secs : Nat) (note : Bys) (V : List Bys) (B : Nat) : Prop := Died D D' ∧ Siz D' n secs note V ∧ ∃ h c TS, RecI D' n secs note V B h c TS
theorem RecI.more {D : Dsk} {n secs : Nat} {note : Bys} {V : List Bys} {B B' : Nat} {h : Hd} {c : Nat} {TS : List PR} (R : RecI D n secs note V B h c TS) (hB : B ≤ B') : RecI D n secs note V B' h c TS :=
  ⟨⟨R.log.c01, R.log.hok, R.log.secs, R.log.head, R.log.other, fun i hi hs => ⟨Nat.lt_of_lt_of_le (R.log.sheets i hi hs).1 hB, (R.log.sheets i hi hs).2⟩, R.log.read, Nat.le_trans R.log.first hB⟩, R.hs, R.hnote, Nat.le_trans R.gen hB, R.ts, R.rep⟩
theorem Siz.over {D : Dsk} {n secs : Nat} {note : Bys} {V : List Bys} {C : PR} (z : Siz D n secs note V) (hC : C.Ok n) : Siz D n secs note (overV V C) := by
  refine ⟨z.n1, z.n2, z.s1, z.s2, z.note, z.room, by rw [overV_len, z.Vl], fun p hp => ?_, z.ok⟩
  obtain ⟨i, hi, rfl⟩ := List.mem_map.1 hp
  have hi := List.mem_range.1 hi
  cases hl : C.lookup i with
  | some b => exact (hC _ (lookup_memG hl)).2
  | none =>
    show (V.getD i []).length = 512
    rw [List.getD_eq_getElem?_getD, List.getElem?_eq_getElem hi]
    exact z.Vs _ (List.getElem_mem hi)
theorem out_step {s : Pg} {D : Dsk} {n secs : Nat} {note : Bys} {V : List Bys} {B : Nat} {TS : List PR} (h : StI s D n secs note V B TS) (hB : B + 1 < 9223372036854775808) :
    ((outF s D).1 = 0 ∧ Lives D (outF s D).2.1 ∧ StI { outS s D with dead := s.dead || decide ((outF s D).1 = 4) } (outF s D).2.1 n secs note V (B + 1) []) ∨ ((outF s D).1 = 4 ∧ DiedV D (outF s D).2.1 n secs note V (B + 1)) := by
  have z := h.siz
  have hroom := z.room
  have hk : ∀ i ∈ s.R, ∃ b, s.K.lookup i = some b ∧ V[i]? = some b := fun i hi => by
    obtain ⟨b, hb⟩ := Option.isSome_iff_exists.1 (h.Rk i hi).1
    exact ⟨b, hb, h.Kv i b hb⟩
  have hmem : ∀ p ∈ wsD s, ∃ i ∈ s.R, p.1 = 2 + secs + i ∧ s.K.lookup i = some p.2 := fun p hp => by
    obtain ⟨q, hq, rfl⟩ := List.mem_map.1 hp
    obtain ⟨i, hi, rfl⟩ := List.mem_map.1 hq
    have hi := srtN_mem.1 hi
    obtain ⟨b, hb, -⟩ := hk i hi
    refine ⟨i, hi, by show 2 + s.g.h.secs + i = _; rw [h.hsecs], ?_⟩
    simp only [hb, Option.getD_some]
  have hin : ∀ i ∈ s.R, 2 + secs + i ∈ (wsD s).map (·.1) := fun i hi => by
    refine List.mem_map.2 ⟨(2 + secs + i, (s.K.lookup i).getD []), ?_, rfl⟩
    rw [← h.hsecs]
    exact List.mem_map.2 ⟨(i, (s.K.lookup i).getD []), List.mem_map.2 ⟨i, srtN_mem.2 hi, rfl⟩, rfl⟩
  have hws : wsOk D (wsD s) := fun p hp => by
    obtain ⟨i, hi, h1, h2⟩ := hmem p hp
    have := h.Kok _ (lookup_memG h2)
    have h3 := (h.Rk i hi).2.2
    exact ⟨by omega, this.2⟩
  have hout : ∀ i, i < 2 + secs → ∀ p ∈ wsD s, p.1 ≠ i := fun i hi p hp => by
    obtain ⟨j, -, h1, -⟩ := hmem p hp
    omega
  have hun : ∀ i, i ∉ s.R → ∀ p ∈ wsD s, p.1 ≠ 2 + secs + i := fun i hi p hp he => by
    obtain ⟨j, hj, h1, -⟩ := hmem p hp
    have : j = i := by omega
    exact hi (this ▸ hj)
  have R0 := h.rec' (by omega)
  unfold outS outF
  rcases bat2 h.rest hws with ⟨e, hl, hon⟩ | ⟨e, hd, hm⟩
  · have hok1 := bat_ok z.ok (wsD s)
    simp only [if_pos e]
    generalize batF D (wsD s) = r at e hl hon hok1 ⊢
    have hlow : ∀ i, i < 2 + secs → r.2.on[i]? = D.on[i]? := fun i hi => by rw [hon]; exact setAll_get (hout i hi)
    have hlen : r.2.on.length = D.on.length := by rw [hon, setAll_len]
    have hpg : ∀ i, i < n → r.2.on[2 + secs + i]? = V[i]? := fun i hi => by
      by_cases hiR : i ∈ s.R
      · obtain ⟨b, hb, hv⟩ := hk i hiR
        rw [hon, setAll_fun (fun j => (s.K.lookup (j - (2 + secs))).getD []) _ _ _ (by omega) fun p hp => by
          obtain ⟨j, -, h1, h2⟩ := hmem p hp
          show p.2 = (s.K.lookup (p.1 - (2 + secs))).getD []
          rw [h1, show 2 + secs + j - (2 + secs) = j by omega, h2]
          rfl]
        rw [if_pos (hin i hiR), show 2 + secs + i - (2 + secs) = i by omega, hb, hv]
        rfl
      · rw [hon, setAll_get (hun i hiR)]
        exact h.pages i hi hiR
    have hsame : SameLog D r.2 s.g.h.secs := same_of h.rest.wait hl.rest.wait fun i hi => hlow (2 + i) (by have := h.hsecs; omega)
    have L1 : LogI r.2 s.g (TS.map textP) := h.log.ext (fun i hi => (hlow i (by omega)).symm) hsame
    have hnx : s.g.next < 18446744073709551616 := by have := h.next; omega
    have hgn : s.g.h.gen + 1 < 18446744073709551616 := by have := h.gen; omega
    have hok2 := bat_ok hok1 [(otherF s.g.at_, hdP (trimH s.g))]
    rw [writeHF_bat]
    rcases trim_bat hl.rest (by rw [h.hsecs, hlen]; omega) (L1.rec' hnx) hgn hnx (fun i hi hs => (L1.sheets i hi hs).1) with ⟨e2, hl2, L2, h2, hlen2⟩ | ⟨e2, hd2, L2, h2, hlen2⟩
    · left
      have htg : ({ trimG s.g r.2 with dead := decide ((batF r.2 [(otherF s.g.at_, hdP (trimH s.g))]).1 = 4) } : Lg) = { s.g with h := trimH s.g, at_ := otherF s.g.at_, used := 0, dead := false } := by
        unfold trimG
        rw [writeHF_bat, if_pos e2, e2]
        rfl
      rw [htg]
      generalize batF r.2 [(otherF s.g.at_, hdP (trimH s.g))] = r2 at e2 hl2 L2 h2 hlen2 hok2 ⊢
      rw [if_pos e2, e2]
      refine ⟨rfl, ⟨hl2.rest, hl2.keep.trans hl.keep, fun h => hl2.left (hl.left h)⟩, ?_⟩
      refine ⟨z.ext hok2 (by rw [hlen2, hlen]), hl2.rest, h.hn, h.hnote, h.hsecs, h.hhnote, L2, (fun _ hh => (nomatch hh)), ?_, h.Kok, h.Kv, (fun _ hh => (nomatch hh)), List.nodup_nil, fun i hi _ => by rw [h2 _ (by omega)]; exact hpg i hi, fun i b hb => (by cases hb), h.Cok, h.Cn, ?_, ?_⟩
      · show (s.dead || decide ((0 : Nat) = 4)) = false
        rw [h.dead]; rfl
      · show (trimH s.g).gen ≤ B + 1
        rw [show (trimH s.g).gen = s.g.h.gen + 1 from Nat.mod_eq_of_lt hgn]
        have := h.gen; omega
      · show s.g.next ≤ B + 1
        have := h.next; omega
    · right
      generalize batF r.2 [(otherF s.g.at_, hdP (trimH s.g))] = r2 at e2 hd2 L2 h2 hlen2 hok2 ⊢
      have hpg2 : ∀ i, i < n → r2.2.on[2 + secs + i]? = V[i]? := fun i hi => by rw [h2 _ (by omega), hpg i hi]
      refine ⟨e2, ⟨fun h => hd2.left (hl.left h), hd2.dead, hd2.wait, hd2.left', hd2.keep⟩, z.ext hok2 (by rw [hlen2, hlen]), ?_⟩
      rcases L2 with L2 | L2
      · refine ⟨s.g.h, s.g.at_, TS, ⟨⟨L2.c01, L2.hok, L2.secs, L2.head, L2.other, fun i hi hs => ⟨Nat.lt_of_lt_of_le (L2.sheets i hi hs).1 (by have := h.next; omega), (L2.sheets i hi hs).2⟩, L2.read, Nat.le_trans L2.first (by have := h.next; omega)⟩, h.hsecs, h.hhnote, by have := h.gen; omega, R0.ts, fun i hi => ?_⟩⟩
        rw [hpg2 i hi]
        cases hlt : lastT TS i with
        | none => rfl
        | some b => exact (h.rep i b hlt).symm
      · refine ⟨_, _, [], ⟨⟨L2.c01, L2.hok, L2.secs, L2.head, L2.other, fun i hi hs => ⟨Nat.lt_of_lt_of_le (L2.sheets i hi hs).1 (by have := h.next; omega), (L2.sheets i hi hs).2⟩, L2.read, Nat.le_trans L2.first (by have := h.next; omega)⟩, h.hsecs, h.hhnote, by rw [show (trimH s.g).gen = s.g.h.gen + 1 from Nat.mod_eq_of_lt hgn]; have := h.gen; omega, ⟨(fun _ hh => (nomatch hh)), by decide⟩, fun i hi => ?_⟩⟩
        rw [hpg2 i hi]; rfl
  · right
    have hok1 := bat_ok z.ok (wsD s)
    have e' : ¬ (batF D (wsD s)).1 = 0 := by rw [e]; decide
    simp only [if_neg e']
    generalize batF D (wsD s) = r at e hd hm hok1 ⊢
    refine ⟨e, hd, z.ext hok1 hm.1, s.g.h, s.g.at_, TS, ?_⟩
    refine (R0.pages (D' := r.2) h.rest.wait hd.wait (fun i hi => mix_out hm (hout i hi)) (fun i hi hlt => mix_out hm (hun i fun hR => ?_))).more (by omega)
    have := (h.Rk i hR).2.1
    rw [hlt] at this
    cases this
theorem log_step {s : Pg} {D : Dsk} {n secs : Nat} {note : Bys} {V : List Bys} {B : Nat} {TS : List PR} (h : StI s D n secs note V B TS) (hB : B + 600 < 9223372036854775808) (hC0 : s.C ≠ []) (hroom : s.g.used + needF (tC s).length ≤ secs) :
    ((cm2F s D).1 = 0 ∧ Lives D (cm2F s D).2.1 ∧ ∀ x, kepsG (cm2F s D).2.2 x → StI { (cm2F s D).2.2 with K := x.1, R := x.2, C := [] } (cm2F s D).2.1 n secs note (overV V s.C) (B + 600) (TS ++ [rowsS s.C])) ∨
    ((cm2F s D).1 = 4 ∧ (DiedV D (cm2F s D).2.1 n secs note V (B + 600) ∨ DiedV D (cm2F s D).2.1 n secs note (overV V s.C) (B + 600))) := by
  have z := h.siz
  have hrm := z.room
  have hsz := h.hsecs
  have hs2 := z.s2
  have hrn : rowsS s.C ≠ [] := fun hc => hC0 (List.eq_nil_of_length_eq_zero (by rw [← rowsS_len, hc]; rfl))
  have htn : tC s ≠ [] := textP_ne hrn
  have hCl := keys_le h.Cok h.Cn
  have hro : (rowsS s.C).Ok n ∧ rowsS s.C ≠ [] ∧ (rowsS s.C).length ≤ 1024 := ⟨rowsS_ok h.Cok, hrn, by rw [rowsS_len]; have := z.n2; omega⟩
  have hTS' : (TS ++ [rowsS s.C]).map textP = TS.map textP ++ [tC s] := by rw [List.map_append]; rfl
  have hlast : ∀ i, lastT (TS ++ [rowsS s.C]) i = (s.C.lookup i).or (lastT TS i) := fun i => by rw [lastT_snoc, img_rows]
  have hVl := z.Vl
  have hov : ∀ i, i < n → (overV V s.C)[i]? = (s.C.lookup i).or V[i]? := fun i hi => overV_at (by omega)
  have hcm : cmtF D s.g (tC s) = batF D (wsC s.g (tC s)) := by
    rw [cmtF, if_neg (by omega), if_neg (by omega)]
  have hnx : s.g.next + needF (tC s).length < 18446744073709551616 := by have := h.next; omega
  have R0 := h.rec' (by omega)
  have hok1 := bat_ok z.ok (wsC s.g (tC s))
  have hcb := commit_bat h.rest h.log (by rw [hsz]; omega) htn (by rw [hsz]; exact hroom) hnx
  unfold cm2F
  rw [hcm]
  have hcg : cmtG D s.g (tC s) = if (batF D (wsC s.g (tC s))).1 = 0 then { s.g with next := s.g.next + needF (tC s).length, used := s.g.used + needF (tC s).length } else s.g := by rw [cmtG, hcm]
  rw [hcg]
  have hlt2 : ∀ i b, (lastT (TS ++ [rowsS s.C]) i) = some b → (overV V s.C)[i]? = some b := fun i b hb => by
    rw [hlast] at hb
    cases hl : s.C.lookup i with
    | some b' =>
      rw [hl] at hb
      rw [hov i (h.Cok _ (lookup_memG hl)).1, hl]
      exact hb
    | none =>
      rw [hl] at hb
      have hv := h.rep i b hb
      have hi : i < n := by
        have := (List.getElem?_eq_some_iff.1 hv).1
        omega
      rw [hov i hi, hl]
      exact hv
  rcases hcb with ⟨e, hl, L2, hhi, hlen⟩ | ⟨e, hd, L2, hhi, hlen⟩
  · left
    generalize batF D (wsC s.g (tC s)) = r at e hl L2 hhi hlen hok1 ⊢
    have hg2 : ({ (if r.1 = 0 then { s.g with next := s.g.next + needF (tC s).length, used := s.g.used + needF (tC s).length } else s.g : Lg) with dead := decide (r.1 = 4) } : Lg) = { s.g with next := s.g.next + needF (tC s).length, used := s.g.used + needF (tC s).length, dead := false } := by
      rw [if_pos e, e]; rfl
    rw [hg2]
    refine ⟨e, hl, fun x hx => ?_⟩
    obtain ⟨k1, k2, k3, k4⟩ := hx
    simp only at k1 k2 k3 k4
    refine ⟨(z.ext hok1 hlen).over h.Cok, hl.rest, h.hn, h.hnote, h.hsecs, h.hhnote, by rw [hTS']; exact L2, fun Q hQ => ?_, ?_, by rw [← h.hn]; exact k3, fun i b hb => ?_, fun i hi => ?_, k4 h.Rn, fun i hi hiR => ?_, hlt2, (fun _ hh => (nomatch hh)), List.nodup_nil, ?_, ?_⟩
    · rcases List.mem_append.1 hQ with hQ | hQ
      · exact h.ts Q hQ
      · rw [List.mem_singleton] at hQ
        subst hQ
        exact hro
    · show (s.dead || decide (r.1 = 4)) = false
      rw [h.dead, e]; rfl
    · have hi : i < n := by rw [← h.hn]; exact (k3 _ (lookup_memG hb)).1
      have hb : x.1.lookup i = some b := hb
      rw [k1] at hb
      rw [hov i hi]
      cases hl' : s.C.lookup i with
      | some b' => rw [hl'] at hb; exact hb
      | none => rw [hl'] at hb; exact h.Kv i b hb
    · have hi : i ∈ x.2 := hi
      rw [hlast]
      show (x.1.lookup i).isSome = true ∧ _
      rw [k1]
      rcases (k2 i).1 hi with h1 | h1
      · obtain ⟨a1, a2, a3⟩ := h.Rk i h1
        refine ⟨?_, ?_, a3⟩
        · cases s.C.lookup i with
          | some b => rfl
          | none => exact a1
        · cases s.C.lookup i with
          | some b => rfl
          | none => exact a2
      · obtain ⟨b, hb⟩ := Option.isSome_iff_exists.1 h1
        rw [hb]
        exact ⟨rfl, rfl, (h.Cok _ (lookup_memG hb)).1⟩
    · have hiR : i ∉ x.2 := hiR
      rw [k2] at hiR
      rw [hhi _ (by omega), hov i hi]
      have hc : s.C.lookup i = none := by
        cases hl' : s.C.lookup i with
        | none => rfl
        | some b => exact absurd (.inr (by rw [hl']; rfl)) hiR
      rw [hc]
      exact h.pages i hi fun hR => hiR (.inl hR)
    · show s.g.h.gen ≤ B + 600
      have := h.gen; omega
    · show s.g.next + needF (tC s).length ≤ B + 600
      have := h.next; omega
  · right
    generalize batF D (wsC s.g (tC s)) = r at e hd L2 hhi hlen hok1 ⊢
    refine ⟨e, ?_⟩
    have hbd : s.g.next + needF (tC s).length ≤ B + 600 := by have := h.next; omega
    rcases L2 with L2 | L2
    · left
      refine ⟨hd, z.ext hok1 hlen, s.g.h, s.g.at_, TS, ⟨⟨L2.c01, L2.hok, L2.secs, L2.head, L2.other, fun i hi hs => ⟨Nat.lt_of_lt_of_le (L2.sheets i hi hs).1 hbd, (L2.sheets i hi hs).2⟩, L2.read, Nat.le_trans L2.first hbd⟩, h.hsecs, h.hhnote, by have := h.gen; omega, R0.ts, fun i hi => ?_⟩⟩
      rw [hhi _ (by omega)]
      exact R0.rep i hi
    · right
      have hmany : (TS ++ [rowsS s.C]).length ≤ 512 := by
        have h1 := h.log.many
        have h2 := needF_pos (tC s).length
        rw [List.length_map] at h1
        rw [List.length_append, List.length_singleton]
        omega
      refine ⟨hd, (z.ext hok1 hlen).over h.Cok, s.g.h, s.g.at_, TS ++ [rowsS s.C], ⟨⟨L2.c01, L2.hok, L2.secs, L2.head, L2.other, fun i hi hs => ⟨Nat.lt_of_lt_of_le (L2.sheets i hi hs).1 hbd, (L2.sheets i hi hs).2⟩, by rw [hTS']; exact L2.read, Nat.le_trans L2.first hbd⟩, h.hsecs, h.hhnote, by have := h.gen; omega, ⟨fun Q hQ => ?_, hmany⟩, fun i hi => ?_⟩⟩
      · rcases List.mem_append.1 hQ with hQ | hQ
        · exact h.ts Q hQ
        · rw [List.mem_singleton] at hQ
          subst hQ
          exact hro
      · rw [hhi _ (by omega)]
        cases hlt : lastT (TS ++ [rowsS s.C]) i with
        | some b => exact (hlt2 i b hlt).symm
        | none =>
          rw [hlast] at hlt
          have hc : s.C.lookup i = none ∧ lastT TS i = none := by
            cases hl' : s.C.lookup i with
            | some b => rw [hl'] at hlt; cases hlt
            | none => rw [hl'] at hlt; exact ⟨rfl, hlt⟩
          have := R0.rep i hi
          rw [hc.2] at this
          rw [hov i hi, hc.1]
          exact this
end Go.Proofs.YtplhamichcnmmaaGreatDoor

namespace Go.Proofs.YtplhamichcnmmaaGreatDoor
set_option maxRecDepth 100000
theorem Lives.trans {D D1 D2 : Dsk} (h : Lives D D1) (h' : Lives D1 D2) : Lives D D2 := ⟨h'.rest, h'.keep.trans h.keep, fun hl => h'.left (h.left hl)⟩
theorem DiedV.trans {D D1 D2 : Dsk} {n secs : Nat} {note : Bys} {V : List Bys} {B : Nat} (h : Lives D D1) (h' : DiedV D1 D2 n secs note V B) : DiedV D D2 n secs note V B :=
  ⟨⟨fun hl => h'.1.left (h.left hl), h'.1.dead, h'.1.wait, h'.1.left', h'.1.keep⟩, h'.2⟩
theorem DiedV.more {D D' : Dsk} {n secs : Nat} {note : Bys} {V : List Bys} {B B' : Nat} (h : DiedV D D' n secs note V B) (hB : B ≤ B') : DiedV D D' n secs note V B' := by
  obtain ⟨a, b, hd, c, TS, R⟩ := h
  exact ⟨a, b, hd, c, TS, R.more hB⟩
theorem StI.more {s : Pg} {D : Dsk} {n secs : Nat} {note : Bys} {V : List Bys} {B B' : Nat} {TS : List PR} (h : StI s D n secs note V B TS) (hB : B ≤ B') : StI s D n secs note V B' TS :=
  ⟨h.siz, h.rest, h.hn, h.hnote, h.hsecs, h.hhnote, h.log, h.ts, h.dead, h.Kok, h.Kv, h.Rk, h.Rn, h.pages, h.rep, h.Cok, h.Cn, Nat.le_trans h.gen hB, Nat.le_trans h.next hB⟩
def StV (s : Pg) (D : Dsk) (n secs : Nat) (note : Bys) (V : List Bys) (B : Nat) : Prop := ∃ TS, StI s D n secs note V B TS
structure Off (D : Dsk) (n secs : Nat) (note : Bys) (V : List Bys) (B : Nat) : Prop where
  dead : D.dead = true
  wait : D.wait = []
  left : D.left = none
  keep : D.keep = []
  siz : Siz D n secs note V
  has : ∃ h c TS, RecI D n secs note V B h c TS
theorem DiedV.off {D D' : Dsk} {n secs : Nat} {note : Bys} {V : List Bys} {B : Nat} (h : DiedV D D' n secs note V B) : Off D' n secs note V B :=
  ⟨h.1.dead, h.1.wait, h.1.left', h.1.keep, h.2.1, h.2.2⟩
theorem StI.crash {s : Pg} {D : Dsk} {n secs : Nat} {note : Bys} {V : List Bys} {B : Nat} {TS : List PR} (h : StI s D n secs note V B TS) (hB : B < 9223372036854775808) (keep : Bys) : (crashG D keep).1 = 0 ∧ Off (crashG D keep).2 n secs note V B := by
  have hr := h.rest
  unfold crashG
  rw [if_neg (by rw [hr.live]; decide)]
  have hon : (goesF D keep).on = D.on := by
    show appN D.on D.wait (keepB keep) D.wait.length = D.on
    rw [hr.wait]; rfl
  refine ⟨rfl, rfl, rfl, rfl, rfl, h.siz.ext (goes_ok h.siz.ok keep) (by show (goesF D keep).on.length = _; rw [hon]), ?_⟩
  exact ⟨_, _, _, (h.rec' hB).pages (D' := goesF D keep) hr.wait rfl (fun i _ => by rw [hon]) (fun i _ _ => by rw [hon])⟩
theorem Off.start {D : Dsk} {n secs : Nat} {note : Bys} {V : List Bys} {B : Nat} (h : Off D n secs note V B) : Dsk.Rest { D with dead := false } ∧ Siz { D with dead := false } n secs note V ∧ ∃ hd c TS, RecI { D with dead := false } n secs note V B hd c TS := by
  refine ⟨⟨rfl, h.wait⟩, h.siz.ext ⟨h.siz.ok.size, h.siz.ok.wsize, h.siz.ok.many, h.siz.ok.left⟩ rfl, ?_⟩
  obtain ⟨hd, c, TS, R⟩ := h.has
  exact ⟨hd, c, TS, R.pages (D' := { D with dead := false }) h.wait h.wait (fun i _ => rfl) (fun i _ _ => rfl)⟩
theorem fuse_ok {D : Dsk} (h : D.Ok) {m : Nat} (hm : m ≤ 9223372036854775807) (keep : Bys) : (fuseF D m keep).Ok :=
  ⟨h.size, h.wsize, h.many, fun k hk => by cases hk; exact hm⟩
theorem StI.fuse {s : Pg} {D : Dsk} {n secs : Nat} {note : Bys} {V : List Bys} {B : Nat} {TS : List PR} (h : StI s D n secs note V B TS) {m : Nat} (hm : m ≤ 9223372036854775807) (keep : Bys) : StI s (fuseF D m keep) n secs note V B TS :=
  ⟨h.siz.ext (fuse_ok h.siz.ok hm keep) rfl, ⟨h.rest.live, h.rest.wait⟩, h.hn, h.hnote, h.hsecs, h.hhnote, h.log.ext (fun _ _ => rfl) (same_of h.rest.wait h.rest.wait fun _ _ => rfl), h.ts, h.dead, h.Kok, h.Kv, h.Rk, h.Rn, h.pages, h.rep, h.Cok, h.Cn, h.gen, h.next⟩
theorem rec_fuse {D : Dsk} {n secs : Nat} {note : Bys} {V : List Bys} {B : Nat} {h : Hd} {c : Nat} {TS : List PR} (hr : D.Rest) (z : Siz D n secs note V) (R : RecI D n secs note V B h c TS) {m : Nat} (hm : m ≤ 9223372036854775807) (keep : Bys) : (fuseF D m keep).Rest ∧ Siz (fuseF D m keep) n secs note V ∧ RecI (fuseF D m keep) n secs note V B h c TS :=
  ⟨⟨hr.live, hr.wait⟩, z.ext (fuse_ok z.ok hm keep) rfl, R.pages (D' := fuseF D m keep) hr.wait hr.wait (fun i _ => rfl) (fun i _ _ => rfl)⟩
theorem cm_step {s : Pg} {D : Dsk} {n secs : Nat} {note : Bys} {V : List Bys} {B : Nat} (h : StV s D n secs note V B) (hB : B + 700 < 9223372036854775808) (hC0 : s.C ≠ []) (hneed : needF (tC s).length ≤ secs) :
    ((cmF s D).1 = 0 ∧ Lives D (cmF s D).2.1 ∧ ∀ x, kepsG (cmF s D).2.2 x → StV (cmR s D x) (cmF s D).2.1 n secs note (overV V s.C) (B + 601)) ∨
    ((cmF s D).1 = 4 ∧ (DiedV D (cmF s D).2.1 n secs note V (B + 601) ∨ DiedV D (cmF s D).2.1 n secs note (overV V s.C) (B + 601))) := by
  obtain ⟨TS, h⟩ := h
  have hsz := h.hsecs
  have hul := h.log.usedle
  unfold cmR cmF
  by_cases hl : s.g.h.secs - s.g.used < needF (tC s).length
  · have e1 : cm1F s D = ((outF s D).1, (outF s D).2.1, { outS s D with dead := s.dead || decide ((outF s D).1 = 4) }) := by unfold cm1F; rw [if_pos hl]
    rw [e1]
    simp only
    rcases out_step h (by omega) with ⟨o1, o2, o3⟩ | ⟨o1, o2⟩
    · simp only [if_pos o1]
      have ht : tC { outS s D with dead := s.dead || decide ((outF s D).1 = 4) } = tC s := rfl
      have hg0 : (outF s D).2.2.used = 0 := by
        have := o3.log.next
        have h2 := o3.log.used
        have e2 : endF ({ outS s D with dead := s.dead || decide ((outF s D).1 = 4) } : Pg).g.h.first [] = ({ outS s D with dead := s.dead || decide ((outF s D).1 = 4) } : Pg).g.h.first := rfl
        rw [List.map_nil, e2] at this
        have e3 : ({ outS s D with dead := s.dead || decide ((outF s D).1 = 4) } : Pg).g = (outF s D).2.2 := rfl
        rw [e3] at this h2
        omega
      have hC' : ({ outS s D with dead := s.dead || decide ((outF s D).1 = 4) } : Pg).C = s.C := rfl
      rcases log_step o3 (by omega) (by rw [hC']; exact hC0) (by rw [ht]; show (outF s D).2.2.used + _ ≤ _; omega) with ⟨l1, l2, l3⟩ | ⟨l1, l2⟩
      · left
        refine ⟨l1, o2.trans l2, fun x hx => ?_⟩
        rw [if_pos l1]
        exact ⟨_, l3 x hx⟩
      · right
        refine ⟨l1, ?_⟩
        rcases l2 with l2 | l2
        · exact .inl (l2.trans o2)
        · exact .inr (l2.trans o2)
    · right
      rw [if_neg (by rw [o1]; decide)]
      exact ⟨o1, .inl (o2.more (by omega))⟩
  · have e1 : cm1F s D = (0, D, s) := by unfold cm1F; rw [if_neg hl]
    rw [e1]
    simp only [if_true]
    rcases log_step h (by omega) hC0 (by omega) with ⟨l1, l2, l3⟩ | ⟨l1, l2⟩
    · left
      refine ⟨l1, l2, fun x hx => ?_⟩
      rw [if_pos l1]
      exact ⟨_, (l3 x hx).more (by omega)⟩
    · right
      exact ⟨l1, l2.imp (fun h => h.more (by omega)) (fun h => h.more (by omega))⟩
end Go.Proofs.YtplhamichcnmmaaGreatDoor

namespace Go.Proofs.YtplhamichcnmmaaGreatDoor
open Go.Eng.Bm
set_option maxRecDepth 100000
def viewF (V : List Bys) (C : PR) (i : Nat) : Bys := (C.lookup i).getD (V.getD i [])
theorem StI.ok {s : Pg} {D : Dsk} {n secs : Nat} {note : Bys} {V : List Bys} {B : Nat} {TS : List PR} (h : StI s D n secs note V B TS) : s.Ok D := by
  have z := h.siz
  have h1 := z.n2
  have h2 := z.s2
  have h3 := z.room
  exact ⟨by rw [h.hn]; exact h1, by rw [h.hsecs]; omega, by rw [h.hn, h.hsecs]; exact h3, by rw [h.hn]; exact h.Cok, by rw [h.hn]; exact h.Kok⟩
theorem StI.cur {s : Pg} {D : Dsk} {n secs : Nat} {note : Bys} {V : List Bys} {B : Nat} {TS : List PR} (h : StI s D n secs note V B TS) {i : Nat} (hi : i < n) (hR : i ∉ s.R) : curF D (2 + s.g.h.secs + i) = V.getD i [] := by
  rw [cur_rest h.rest.wait, List.getD_eq_getElem?_getD, List.getD_eq_getElem?_getD, h.hsecs, h.pages i hi hR]
theorem StI.view {s : Pg} {D : Dsk} {n secs : Nat} {note : Bys} {V : List Bys} {B : Nat} {TS : List PR} (h : StI s D n secs note V B TS) {i : Nat} (hi : i < n) : pageB s D i = viewF V s.C i := by
  unfold pageB viewF
  cases hc : s.C.lookup i with
  | some b => rfl
  | none =>
    cases hk : s.K.lookup i with
    | some b =>
      show b = V.getD i []
      rw [List.getD_eq_getElem?_getD, h.Kv i b hk]; rfl
    | none => exact h.cur hi fun hR => by have := (h.Rk i hR).1; rw [hk] at this; cases this
theorem StI.page {s : Pg} {D : Dsk} {n secs : Nat} {note : Bys} {V : List Bys} {B : Nat} {TS : List PR} (h : StI s D n secs note V B TS) {i : Nat} (hi : i < n) : StI (pageS s D i) D n secs note V B TS := by
  unfold pageS
  split
  · exact h
  · rename_i hn
    have hk : s.K.lookup i = none := by
      cases hk : s.K.lookup i with
      | none => rfl
      | some b => rw [hk] at hn; cases hc : s.C.lookup i <;> rw [hc] at hn <;> exact absurd rfl hn
    have hR : i ∉ s.R := fun hR => by have := (h.Rk i hR).1; rw [hk] at this; cases this
    have hcu := h.cur hi hR
    have hVl := h.siz.Vl
    have hV : V[i]? = some (V.getD i []) := by rw [List.getD_eq_getElem?_getD, List.getElem?_eq_getElem (by omega)]; rfl
    refine ⟨h.siz, h.rest, h.hn, h.hnote, h.hsecs, h.hhnote, h.log, h.ts, h.dead, ?_, fun j b hj => ?_, fun j hj => ?_, h.Rn, h.pages, h.rep, h.Cok, h.Cn, h.gen, h.next⟩
    · exact h.Kok.ins hi (by rw [hcu]; exact h.siz.Vs _ (List.mem_of_getElem? hV))
    · have hj : (insG s.K i (curF D (2 + s.g.h.secs + i))).lookup j = some b := hj
      rw [insG_lookup] at hj
      by_cases hji : j = i
      · rw [if_pos hji] at hj
        cases hj
        rw [hji, hcu]; exact hV
      · rw [if_neg hji] at hj
        exact h.Kv j b hj
    · obtain ⟨a1, a2, a3⟩ := h.Rk j hj
      refine ⟨?_, a2, a3⟩
      show ((insG s.K i (curF D (2 + s.g.h.secs + i))).lookup j).isSome = true
      rw [insG_lookup]
      split
      · rfl
      · exact a1
theorem pageS_C (s : Pg) (D : Dsk) (i : Nat) : (pageS s D i).C = s.C := by unfold pageS; split <;> rfl
theorem pageS_b (s : Pg) (D : Dsk) (i : Nat) : (pageS s D i).b = s.b := by unfold pageS; split <;> rfl
theorem insG_nodup {A : PR} {i : Nat} {b : Bys} (h : (A.map (·.1)).Nodup) : ((insG A i b).map (·.1)).Nodup := by
  unfold insG
  split
  · have e : (A.map fun p => if p.1 = i then (i, b) else p).map (·.1) = A.map (·.1) := by
      rw [List.map_map]
      refine List.map_congr_left fun p _ => ?_
      show (if p.1 = i then (i, b) else p).1 = p.1
      split
      · rename_i hp; exact hp.symm
      · rfl
    rw [e]; exact h
  · rename_i hn
    rw [List.map_append, List.nodup_append]
    refine ⟨h, by simp, fun x hx y hy => ?_⟩
    simp only [List.map_cons, List.map_nil, List.mem_singleton] at hy
    subst hy
    rintro rfl
    exact hn (lookup_mem_keys.2 hx)
theorem StI.setC {s : Pg} {D : Dsk} {n secs : Nat} {note : Bys} {V : List Bys} {B : Nat} {TS : List PR} (h : StI s D n secs note V B TS) {C : PR} (hC : C.Ok n) (hn : (C.map (·.1)).Nodup) : StI { s with C := C } D n secs note V B TS :=
  ⟨h.siz, h.rest, h.hn, h.hnote, h.hsecs, h.hhnote, h.log, h.ts, h.dead, h.Kok, h.Kv, h.Rk, h.Rn, h.pages, h.rep, hC, hn, h.gen, h.next⟩
theorem StI.ins {s : Pg} {D : Dsk} {n secs : Nat} {note : Bys} {V : List Bys} {B : Nat} {TS : List PR} (h : StI s D n secs note V B TS) {i : Nat} {b : Bys} (hi : i < n) (hb : b.length = 512) : StI { s with C := insG s.C i b } D n secs note V B TS :=
  h.setC (h.Cok.ins hi hb) (insG_nodup h.Cn)
theorem over_view {V : List Bys} {C : PR} {i : Nat} (hi : i < V.length) : (overV V C).getD i [] = viewF V C i := by
  rw [List.getD_eq_getElem?_getD, overV_at hi]
  unfold viewF
  rw [List.getD_eq_getElem?_getD, List.getElem?_eq_getElem hi]
  cases C.lookup i <;> rfl
theorem overV_ext {V : List Bys} {C C' : PR} (h : ∀ i, C.lookup i = C'.lookup i) : overV V C = overV V C' := by
  unfold overV
  exact List.map_congr_left fun i _ => by rw [h i]
theorem rows_same {A A' : PR} (h : ∀ i, A.lookup i = A'.lookup i) (hn : (A.map (·.1)).Nodup) (hn' : (A'.map (·.1)).Nodup) : A.length = A'.length := by
  have h1 : A.length ≤ A'.length := by
    have := nodup_le hn (L := A'.map (·.1)) fun x hx => lookup_mem_keys.1 (by rw [← h]; exact lookup_mem_keys.2 hx)
    simpa using this
  have h2 : A'.length ≤ A.length := by
    have := nodup_le hn' (L := A.map (·.1)) fun x hx => lookup_mem_keys.1 (by rw [h]; exact lookup_mem_keys.2 hx)
    simpa using this
  omega
def BmIs (n : Nat) (b : Bys) (S : Nat → Bool) : Prop := b = bmB n S ∧ Canon n S ∧ S 0 = true
theorem canon_upd {n : Nat} {S : Nat → Bool} {i : Nat} {u : Bool} (h : Canon n S) (hi : i < n) : Canon n (upd S i u) := fun j hj => by
  unfold upd
  rw [if_neg (by omega)]
  exact h j hj
theorem cnt_canon {S : Nat → Bool} {n : Nat} (h : Canon n S) : ∀ k, cnt S (n + k) = cnt S n
  | 0 => rfl
  | k + 1 => by
    show cnt S (n + k) + (S (n + k)).toNat = _
    rw [cnt_canon h k, h (n + k) (Nat.le_add_right _ _)]; rfl
theorem needC {s : Pg} {n : Nat} (h : s.C.Ok n) (h0 : s.C ≠ []) : needF (tC s).length = (514 * s.C.length + 496) / 497 := by
  have := textP_len (rowsS_ok h)
  rw [rowsS_len] at this
  rw [show (tC s).length = 514 * s.C.length from this]
  have h1 : 0 < s.C.length := List.length_pos_iff.2 h0
  unfold needF
  omega
end Go.Proofs.YtplhamichcnmmaaGreatDoor
