/- Trees of pages: the pages that a Put takes; Put at the root. Own work; no condition. -/
/- Trees of pages: two nodes side by side are joined, or shared out anew. Own work; no condition. -/
/- Trees of pages: a child that is not full enough is mended; Delete. Own work; no condition. -/
import Derived.Test.YtkkfifhaobjicaaGreatDoorHb05
namespace Go.Eng.Tr
set_option maxRecDepth 100000
structure Acc (n : Nat) (S : Nat → Bool) (L : List Nat) : Prop where
 nodup : L.Nodup
 is : ∀ i, i < n → (S i = true ↔ i = 0 ∨ i ∈ L)
 low : ∀ x ∈ L, 1 ≤ x ∧ x < n
theorem Acc.perm {n : Nat} {S : Nat → Bool} {L L' : List Nat} (h : Acc n S L) (p : L.Perm L') : Acc n S L' :=
 ⟨p.nodup_iff.1 h.nodup, fun i hi => (h.is i hi).trans ⟨fun h => h.imp id p.mem_iff.1, fun h => h.imp id p.mem_iff.2⟩, fun x hx => h.low x (p.mem_iff.2 hx)⟩
theorem ztw : ∀ {l L : List Nat}, l.Nodup → (∀ x ∈ l, x ∈ L) → l.length ≤ L.length
 | [], _, _, _ => Nat.zero_le _
 | a :: l, L, hn, h => by
  obtain ⟨n1, n2⟩ := List.nodup_cons.1 hn
  have ha := h a (.head _)
  have := ztw (l := l) (L := L.erase a) n2 fun x hx => (List.mem_erase_of_ne (fun e : x = a => n1 (by rw [← e]; exact hx))).2 (h x (.tail _ hx))
  rw [List.length_erase_of_mem ha] at this
  have := List.length_pos_of_mem ha
  rw [List.length_cons]
  omega
theorem zks {S : Nat → Bool} {n : Nat} (h : ∃ i, i < n ∧ S i = false) : S (nw n S) = false ∧ nw n S < n ∧ ∀ j, j < nw n S → S j = true := by
 unfold nw
 cases hf : (List.range n).find? fun i => !S i with
 | none =>
  obtain ⟨i, hi, hs⟩ := h
  have := List.find?_eq_none.1 hf i (List.mem_range.2 hi)
  rw [hs] at this
  exact absurd rfl this
 | some q =>
  obtain ⟨h1, as, bs, h2, h3⟩ := List.find?_eq_some_iff_append.1 hf
  have hlen := congrArg List.length h2
  rw [List.length_range, List.length_append, List.length_cons] at hlen
  have hq : q = as.length := by
   have : (List.range n)[as.length]? = (as ++ q :: bs)[as.length]? := by rw [h2]
   rw [List.getElem?_range (by omega), List.getElem?_append_right (Nat.le_refl _), Nat.sub_self] at this
   simpa using this.symm
  show S q = false ∧ q < n ∧ ∀ j, j < q → S j = true
  refine ⟨by simpa using h1, by omega, fun j hj => ?_⟩
  have hm : j ∈ as := by
   have : (List.range n)[j]? = (as ++ q :: bs)[j]? := by rw [h2]
   rw [List.getElem?_range (by omega), List.getElem?_append_left (by omega)] at this
   exact List.mem_of_getElem? this.symm
  simpa using h3 j hm
theorem Acc.free {n : Nat} {S : Nat → Bool} {L : List Nat} (h : Acc n S L) (hr : L.length + 1 < n) : S (nw n S) = false ∧ nw n S < n ∧ (∀ j, j < nw n S → S j = true) ∧ 1 ≤ nw n S ∧ nw n S ∉ L := by
 have hex : ∃ i, i < n ∧ S i = false := by
  by_cases hall : ∀ i, i < n → S i = true
  ·exfalso
   have := ztw (l := List.range n) (L := 0 :: L) List.nodup_range fun x hx => by
    rcases (h.is x (List.mem_range.1 hx)).1 (hall x (List.mem_range.1 hx)) with rfl | h
    ·exact .head _
    ·exact .tail _ h
   rw [List.length_range, List.length_cons] at this
   omega
  ·by_cases hne : ∃ i, i < n ∧ S i = false
   ·exact hne
   ·exfalso
    apply hall
    intro i hi
    cases hs : S i with
    | true => rfl
    | false => exact absurd ⟨i, hi, hs⟩ hne
 obtain ⟨h1, h2, h3⟩ := zks hex
 have h0 : S 0 = true := (h.is 0 (by omega)).2 (.inl rfl)
 refine ⟨h1, h2, h3, ?_, fun hm => ?_⟩
 ·rcases Nat.eq_zero_or_pos (nw n S) with h | h
  ·rw [h, h0] at h1; cases h1
  ·exact h
 ·have := (h.is _ h2).2 (.inr hm)
  rw [h1] at this; cases this
theorem Acc.add {n : Nat} {S : Nat → Bool} {L : List Nat} (h : Acc n S L) (hr : L.length + 1 < n) : Acc n (us S (nw n S) true) (nw n S :: L) := by
 obtain ⟨h1, h2, h3, h4, h5⟩ := h.free hr
 refine ⟨List.nodup_cons.2 ⟨h5, h.nodup⟩, fun i hi => ?_, fun x hx => ?_⟩
 ·unfold us
  by_cases e : i = nw n S
  ·rw [if_pos e]
   exact ⟨fun _ => .inr (e ▸ .head _), fun _ => rfl⟩
  ·rw [if_neg e]
   refine (h.is i hi).trans ⟨fun h => h.imp id (fun h => .tail _ h), fun h => h.imp id fun h => ?_⟩
   rcases List.mem_cons.1 h with h | h
   ·exact absurd h e
   ·exact h
 ·rcases List.mem_cons.1 hx with rfl | hx
  ·exact ⟨h4, h2⟩
  ·exact h.low x hx
theorem Acc.del {n : Nat} {S : Nat → Bool} {L : List Nat} {q : Nat} (h : Acc n S (q :: L)) : Acc n (us S q false) L := by
 obtain ⟨n1, n2⟩ := List.nodup_cons.1 h.nodup
 have hq := (h.low q (.head _)).1
 refine ⟨n2, fun i hi => ?_, fun x hx => h.low x (.tail _ hx)⟩
 unfold us
 by_cases e : i = q
 ·rw [if_pos e]
  refine ⟨fun h => (nomatch h), fun h => ?_⟩
  rcases h with h | h
  ·omega
  ·exact absurd (e ▸ h) n1
 ·rw [if_neg e]
  refine (h.is i hi).trans ⟨fun h => h.imp id fun h => ?_, fun h => h.imp id fun h => .tail _ h⟩
  rcases List.mem_cons.1 h with h | h
  ·exact absurd h e
  ·exact h
def qqn {h : Nat} (r : Res h) : List Nat := pgs r.1 ++ (r.2.1.map fun g => pgs g.2).getD []
structure qqg (n : Nat) (S : Nat → Bool) {h : Nat} (t : T h) (r : Res h) (N : List Nat) : Prop where
 few : N.length ≤ h + 1
 perm : (qqn r).Perm (N ++ pgs t)
 acc : ∀ L, L.length + h + 2 < n → Acc n S L → Acc n r.2.2 (N ++ L)
theorem zvv (s : Sh) (n : Nat) (S : Nat → Bool) {h : Nat} (t : T h) : ∃ N, N.length ≤ 1 ∧ (qqn (zcc s n S t)).Perm (N ++ pgs t) ∧ ∀ L, L.length + 1 < n → Acc n S L → Acc n (zcc s n S t).2.2 (N ++ L) := by
 obtain ⟨h1, h2⟩ := qab s n S t
 unfold qqn
 cases hg : (zcc s n S t).2.1 with
 | none =>
  obtain ⟨a, b⟩ := h1 hg
  exact ⟨[], Nat.zero_le _, by rw [a]; simp, fun L _ hA => by rw [b]; exact hA⟩
 | some g =>
  obtain ⟨k, d⟩ := g
  obtain ⟨a, -, b⟩ := h2 k d hg
  exact ⟨[nw n S], Nat.le_refl _, a, fun L hL hA => by rw [b]; exact hA.add hL⟩
theorem ztv {h : Nat} (l : List (T h)) {i : Nat} (hi : i < l.length) (x : T h) {N : List Nat} (hp : (pgs x).Perm (N ++ pgs l[i])) : ((l.set i x).flatMap pgs).Perm (N ++ l.flatMap pgs) := by
 have e1 : l.flatMap pgs = (l.take i).flatMap pgs ++ (pgs l[i] ++ (l.drop (i + 1)).flatMap pgs) := by
  conv => lhs; rw [← List.take_append_drop i l, List.drop_eq_getElem_cons hi]
  rw [List.flatMap_append, List.flatMap_cons]
 have e2 : (l.set i x).flatMap pgs = (l.take i).flatMap pgs ++ (pgs x ++ (l.drop (i + 1)).flatMap pgs) := by
  conv => lhs; rw [← List.take_append_drop i (l.set i x), List.drop_eq_getElem_cons (by rw [List.length_set]; exact hi)]
  rw [List.flatMap_append, List.flatMap_cons, List.getElem_set_self, List.take_set_of_le (by omega), List.drop_set_of_lt (by omega)]
 rw [e1, e2]
 refine (List.Perm.append_left _ (List.Perm.append_right _ hp)).trans ?_
 rw [List.append_assoc]
 exact List.perm_append_comm_assoc _ _ _
theorem zkw {h : Nat} (l : List (T h)) (i : Nat) (x : T h) : ((ins l i x).flatMap pgs).Perm (pgs x ++ l.flatMap pgs) := by
 unfold ins
 rw [List.flatMap_append, List.flatMap_cons]
 refine (List.perm_append_comm_assoc _ _ _).trans ?_
 rw [← List.flatMap_append, List.take_append_drop]
theorem zzp (s : Sh) (n : Nat) (k v : K) : ∀ {h : Nat} (t : T h) (S : Nat → Bool), (∀ (h' : Nat), True) → ∃ N, qqg n S t (znj s n t k v S) N
 | 0, (p, es), S, _ => by
  obtain ⟨N, h1, h2, h3⟩ := zvv s n S (zbk p (zfl es k v))
  exact ⟨N, h1, h2, fun L hL hA => h3 L (by omega) hA⟩
 | h + 1, (p, ks, kids), S, _ => by
  cases hc : kids[dn ks k]? with
  | none =>
   have hput : znj s n (h := h + 1) (p, ks, kids) k v S = ((p, ks, kids), none, S) := by
    simp only [znj, hc]
    rfl
   rw [hput]
   exact ⟨[], Nat.zero_le _, by show (pgs (zaw p ks kids) ++ []).Perm _; rw [List.append_nil]; exact .refl _, fun L _ hA => hA⟩
  | some c =>
   obtain ⟨hi, rfl⟩ := List.getElem?_eq_some_iff.1 hc
   obtain ⟨N1, f1, p1, a1⟩ := zzp s n k v kids[dn ks k] S (fun _ => trivial)
   have hput : znj s n (h := h + 1) (p, ks, kids) k v S = match znj s n kids[dn ks k] k v S with
    | (c', none, S') => (zaw p ks (kids.set (dn ks k) c'), none, S')
    | (c', some (q, d), S') => zcc s n S' (zaw p (ins ks (dn ks k) q) (ins (kids.set (dn ks k) c') (dn ks k + 1) d)) := by
    simp only [znj, hc]
    rfl
   rw [hput]
   obtain ⟨⟨c', g, S'⟩, hr⟩ : ∃ r, znj s n kids[dn ks k] k v S = r := ⟨_, rfl⟩
   rw [hr] at p1 a1 ⊢
   cases g with
   | none =>
    have p1 : (pgs c' ++ []).Perm (N1 ++ pgs kids[dn ks k]) := p1
    rw [List.append_nil] at p1
    refine ⟨N1, by omega, ?_, fun L hL hA => a1 L (by omega) hA⟩
    show ((p :: (kids.set (dn ks k) c').flatMap pgs) ++ []).Perm (N1 ++ p :: kids.flatMap pgs)
    rw [List.append_nil]
    exact (List.Perm.cons _ (ztv kids hi c' p1)).trans List.perm_middle.symm
   | some g =>
    obtain ⟨q, d⟩ := g
    have p1 : (pgs c' ++ pgs d).Perm (N1 ++ pgs kids[dn ks k]) := p1
    obtain ⟨N2, g1, g2, g3⟩ := zvv s n S' (zaw p (ins ks (dn ks k) q) (ins (kids.set (dn ks k) c') (dn ks k + 1) d))
    refine ⟨N2 ++ N1, by rw [List.length_append]; omega, ?_, fun L hL hA => ?_⟩
    ·refine g2.trans ?_
     rw [List.append_assoc]
     refine List.Perm.append_left _ ?_
     show (p :: (ins (kids.set (dn ks k) c') (dn ks k + 1) d).flatMap pgs).Perm (N1 ++ p :: kids.flatMap pgs)
     refine (List.Perm.cons _ ?_).trans List.perm_middle.symm
     refine (zkw _ _ _).trans ?_
     have e1 : kids.flatMap pgs = (kids.take (dn ks k)).flatMap pgs ++ (pgs kids[dn ks k] ++ (kids.drop (dn ks k + 1)).flatMap pgs) := by
      conv => lhs; rw [← List.take_append_drop (dn ks k) kids, List.drop_eq_getElem_cons hi]
      rw [List.flatMap_append, List.flatMap_cons]
     have e2 : (kids.set (dn ks k) c').flatMap pgs = (kids.take (dn ks k)).flatMap pgs ++ (pgs c' ++ (kids.drop (dn ks k + 1)).flatMap pgs) := by
      conv => lhs; rw [← List.take_append_drop (dn ks k) (kids.set (dn ks k) c'), List.drop_eq_getElem_cons (by rw [List.length_set]; exact hi)]
      rw [List.flatMap_append, List.flatMap_cons, List.getElem_set_self, List.take_set_of_le (by omega), List.drop_set_of_lt (by omega)]
     rw [e1, e2]
     have hp2 : (pgs d ++ pgs c').Perm (N1 ++ pgs kids[dn ks k]) := List.perm_append_comm.trans p1
     generalize (kids.take (dn ks k)).flatMap pgs = A
     generalize (kids.drop (dn ks k + 1)).flatMap pgs = B
     refine (List.perm_append_comm_assoc _ _ _).trans ?_
     refine List.Perm.trans ?_ (List.perm_append_comm_assoc _ _ _)
     refine List.Perm.append_left _ ?_
     rw [← List.append_assoc, ← List.append_assoc]
     exact List.Perm.append_right _ hp2
    ·have hA1 := a1 L (by omega) hA
     have := g3 (N1 ++ L) (by rw [List.length_append]; omega) hA1
     rwa [List.append_assoc]
/-! ### rows of parts, taken apart and put together -/
theorem Sep.two : ∀ {P : List K} {X : List E} {q : K} {R : List K} {Y : List E}, P.length + 1 = X.length → Ks (P ++ q :: R) → Sep (P ++ q :: R) (X ++ Y) → Sep P X ∧ Sep R Y ∧ (∀ e ∈ X, ze6 e q) ∧ (∀ e ∈ Y, zgn e q) ∧ ∀ k ∈ P, ∀ e ∈ Y, zgn e k
 | [], [a], q, R, Y, _, _, h => ⟨trivial, h.2.2, fun e he => (List.mem_singleton.1 he) ▸ h.1, h.2.1, fun _ h => nomatch h⟩
 | [], [], _, _, _, h, _, _ => absurd h (by simp)
 | [], _ :: _ :: _, _, _, _, h, _, _ => absurd h (by simp)
 | k :: P, [], _, _, _, h, _, _ => absurd h (by simp)
 | k :: P, e :: X, q, R, Y, hl, hk, h => by
  obtain ⟨k1, k2⟩ := List.pairwise_cons.1 hk
  obtain ⟨h1, h2, h3⟩ : ze6 e k ∧ (∀ e' ∈ X ++ Y, zgn e' k) ∧ Sep (P ++ q :: R) (X ++ Y) := h
  obtain ⟨i1, i2, i3, i4, i5⟩ := Sep.two (by simpa using hl) k2 h3
  refine ⟨⟨h1, fun e' he => h2 e' (List.mem_append_left _ he), i1⟩, i2, fun e' he => ?_, i4, fun k' hk' e' he => ?_⟩
  ·rcases List.mem_cons.1 he with rfl | he
   ·exact fun x hx => zb5 (h1 x hx) (k1 q (List.mem_append_right _ (.head _)))
   ·exact i3 e' he
  ·rcases List.mem_cons.1 hk' with rfl | hk'
   ·exact h2 e' (List.mem_append_right _ he)
   ·exact i5 k' hk' e' he
theorem Sep.last : ∀ {P : List K} {X : List E} {a l : E}, Sep P (X ++ [a]) → (∀ k ∈ P, zgn l k) → Sep P (X ++ [l])
 | [], [], _, _, _, _ => trivial
 | [], _ :: X, a, _, h, _ => by have := h.len; simp at this
 | k :: P, [], a, _, h, _ => by have := h.len; simp at this
 | k :: P, e :: X, a, l, h, hl => by
  refine ⟨h.1, fun e' he => ?_, Sep.last h.2.2 fun k' hk => hl k' (.tail _ hk)⟩
  rcases List.mem_append.1 he with he | he
  ·exact h.2.1 e' (List.mem_append_left _ he)
  ·exact (List.mem_singleton.1 he) ▸ hl k (.head _)
theorem Sep.first {R : List K} {Y : List E} {b d : E} (h : Sep R (b :: Y)) (hd : ∀ k ∈ R, ze6 d k) : Sep R (d :: Y) := by
 match R, Y, h with
 | [], [], _ => trivial
 | k :: R, Y, h => exact ⟨hd k (.head _), h.2.1, h.2.2⟩
theorem Sep.glue : ∀ {P : List K} {X : List E} {e : E} {R : List K} {Y : List E}, Sep P (X ++ [e]) → Sep R (e :: Y) → (∀ k ∈ P, ∀ e' ∈ Y, zgn e' k) → Sep (P ++ R) (X ++ e :: Y)
 | [], [], _, _, _, _, h, _ => h
 | [], _ :: X, _, _, _, h, _, _ => by have := h.len; simp at this
 | k :: P, [], _, _, _, h, _, _ => by have := h.len; simp at this
 | k :: P, x :: X, e, R, Y, h, h2, hc => by
  refine ⟨h.1, fun e' he => ?_, Sep.glue h.2.2 h2 fun k' hk => hc k' (.tail _ hk)⟩
  rcases List.mem_append.1 he with he | he
  ·exact h.2.1 e' (List.mem_append_left _ he)
  ·rcases List.mem_cons.1 he with rfl | he
   ·exact h.2.1 _ (List.mem_append_right _ (.head _))
   ·exact hc k (.head _) e' he
theorem Sep.keyLt {P : List K} {X : List E} {q : K} (h : Sep P X) (hk : Ks P) (hne : ∀ e ∈ X, e ≠ []) (hl : ∀ e ∈ X, ze6 e q) : ∀ k ∈ P, kl k q := by
 intro k hk'
 obtain ⟨i, hi, rfl⟩ := List.getElem_of_mem hk'
 obtain ⟨p1, p2⟩ := h.part hk
 have hlen := h.len
 have hj : i + 1 < X.length := by omega
 obtain ⟨x, hx⟩ := List.exists_mem_of_ne_nil _ (hne _ (List.getElem_mem hj))
 exact zdg (p2 i (i + 1) hi hj (Nat.lt_succ_self i) x hx) (hl _ (List.getElem_mem hj) x hx)
theorem Sep.ltKey {R : List K} {Y : List E} {q : K} (h : Sep R Y) (hk : Ks R) (hne : ∀ e ∈ Y, e ≠ []) (hg : ∀ e ∈ Y, zgn e q) : ∀ k ∈ R, kl q k := by
 intro k hk'
 obtain ⟨i, hi, rfl⟩ := List.getElem_of_mem hk'
 obtain ⟨p1, p2⟩ := h.part hk
 have hlen := h.len
 have hj : i < Y.length := by omega
 obtain ⟨x, hx⟩ := List.exists_mem_of_ne_nil _ (hne _ (List.getElem_mem hj))
 exact zdg (hg _ (List.getElem_mem hj) x hx) (p1 i i hi hj (Nat.le_refl _) x hx)
theorem qet {P R : List K} {q : K} (h1 : Ks P) (h2 : Ks R) (l1 : ∀ k ∈ P, kl k q) (l2 : ∀ k ∈ R, kl q k) : Ks (P ++ q :: R) := by
 unfold Ks
 rw [List.pairwise_append]
 refine ⟨h1, List.pairwise_cons.2 ⟨l2, h2⟩, fun x hx y hy => ?_⟩
 rcases List.mem_cons.1 hy with rfl | hy
 ·exact l1 x hx
 ·exact zb5 (l1 x hx) (l2 y hy)
theorem qit {P R : List K} {q : K} (h : Ks (P ++ q :: R)) : Ks P ∧ Ks R ∧ (∀ k ∈ P, kl k q) ∧ (∀ k ∈ R, kl q k) ∧ Ks (P ++ R) := by
 unfold Ks at *
 rw [List.pairwise_append] at h
 obtain ⟨h1, h2, h3⟩ := h
 obtain ⟨h4, h5⟩ := List.pairwise_cons.1 h2
 exact ⟨h1, h5, fun k hk => h3 k hk q (.head _), h4, List.pairwise_append.2 ⟨h1, h5, fun x hx y hy => h3 x hx y (.tail _ hy)⟩⟩
/-! ### joined -/
def zcq : {h : Nat} → T h → T h → K → T h
 | 0, a, b, _ => zbk a.1 (a.2 ++ b.2)
 | _ + 1, a, b, q => zaw a.1 (a.2.1 ++ q :: b.2.1) (a.2.2 ++ b.2.2)
theorem zgj : ∀ {h : Nat} (a b : T h) (q : K), sz (zcq a b q) = sz a + sz b
 | 0, (_, _), (_, _), _ => List.length_append
 | _ + 1, (_, _, _), (_, _, _), _ => List.length_append
theorem qf1 : ∀ {h : Nat} (a b : T h) (q : K), ents (zcq a b q) = ents a ++ ents b
 | 0, (_, _), (_, _), _ => rfl
 | _ + 1, (_, _, _), (_, _, _), _ => List.flatMap_append
theorem zmc : ∀ {h : Nat} (a b : T h) (q : K), pg (zcq a b q) = pg a
 | 0, (_, _), (_, _), _ => rfl
 | _ + 1, (_, _, _), (_, _, _), _ => rfl
theorem qao : ∀ {h : Nat} (a b : T h) (q : K), (pgs a ++ pgs b).Perm (pg b :: pgs (zcq a b q))
 | 0, (_, _), (_, _), _ => .swap _ _ _
 | _ + 1, (pa, _, A), (pb, _, B), _ => by
  show ((pa :: A.flatMap pgs) ++ (pb :: B.flatMap pgs)).Perm (pb :: pa :: (A ++ B).flatMap pgs)
  rw [List.flatMap_append]
  exact List.perm_middle
theorem zq5 (s : Sh) : ∀ {h : Nat} (a b : T h) (q : K), Below s a → Below s b → Below s (zcq a b q)
 | 0, _, _, _, _, _ => trivial
 | _ + 1, (_, _, _), (_, _, _), _, ha, hb => fun x hx => (List.mem_append.1 hx).elim (ha x) (hb x)
theorem qfz (s : Sh) : ∀ {h : Nat} (a b : T h) (q : K), Wd s a → Wd s b → q.length = s.kw → Wd s (zcq a b q)
 | 0, (_, _), (_, _), _, ha, hb, _ => fun x hx => (List.mem_append.1 hx).elim (ha x) (hb x)
 | _ + 1, (_, _, _), (_, _, _), q, ha, hb, hq => by
  refine ⟨fun k hk => ?_, fun x hx => (List.mem_append.1 hx).elim (ha.2 x) (hb.2 x)⟩
  rcases List.mem_append.1 hk with hk | hk
  ·exact ha.1 k hk
  ·rcases List.mem_cons.1 hk with rfl | hk
   ·exact hq
   ·exact hb.1 k hk
theorem zy5 (s : Sh) (h2 : ∀ h, 2 ≤ mx s h) : ∀ {h : Nat} (a b : T h) (q : K), Ord a → Ord b → Below s a → Below s b → ze6 (ents a) q → zgn (ents b) q → Ord (zcq a b q)
 | 0, (_, ea), (_, eb), q, ha, hb, _, _, la, gb => by
  have ha : Es ea := ha
  have hb : Es eb := hb
  show Es (ea ++ eb)
  unfold Es Ks
  rw [List.map_append, List.pairwise_append]
  refine ⟨ha, hb, fun x hx y hy => ?_⟩
  obtain ⟨p, hp, rfl⟩ := List.mem_map.1 hx
  obtain ⟨r, hr, rfl⟩ := List.mem_map.1 hy
  exact zti (la p hp) (gb r hr)
 | h + 1, (_, P, X), (_, R, Y), q, ha, hb, ba, bb, la, gb => by
  obtain ⟨a1, a2, a3⟩ : Ks P ∧ Sep P (X.map ents) ∧ ∀ x ∈ X, Ord x := ha
  obtain ⟨b1, b2, b3⟩ : Ks R ∧ Sep R (Y.map ents) ∧ ∀ x ∈ Y, Ord x := hb
  have ba : ∀ x ∈ X, mx s h / 2 ≤ sz x ∧ sz x ≤ mx s h ∧ Below s x := ba
  have bb : ∀ x ∈ Y, mx s h / 2 ≤ sz x ∧ sz x ≤ mx s h ∧ Below s x := bb
  have hh := h2 h
  have ne : ∀ Z : List (T h), (∀ x ∈ Z, mx s h / 2 ≤ sz x ∧ sz x ≤ mx s h ∧ Below s x) → ∀ e ∈ Z.map ents, e ≠ [] := fun Z hZ e he => by
   obtain ⟨x, hx, rfl⟩ := List.mem_map.1 he
   obtain ⟨c1, -, c3⟩ := hZ x hx
   exact zhv s h2 x c3 (by omega)
  have la' : ∀ e ∈ X.map ents, ze6 e q := fun e he p hp => by
   obtain ⟨x, hx, rfl⟩ := List.mem_map.1 he
   exact la p (List.mem_flatMap.2 ⟨x, hx, hp⟩)
  have gb' : ∀ e ∈ Y.map ents, zgn e q := fun e he p hp => by
   obtain ⟨x, hx, rfl⟩ := List.mem_map.1 he
   exact gb p (List.mem_flatMap.2 ⟨x, hx, hp⟩)
  have k1 := a2.keyLt a1 (ne X ba) la'
  have k2 := b2.ltKey b1 (ne Y bb) gb'
  refine ⟨qet a1 b1 k1 k2, ?_, fun x hx => (List.mem_append.1 hx).elim (a3 x) (b3 x)⟩
  show Sep (P ++ q :: R) ((X ++ Y).map ents)
  rw [List.map_append]
  exact Sep.join b2 gb' a2 (fun k hk e he p hp h => gb' e he p hp (zb5 h (k1 k hk))) la'
section
variable {α : Type}
theorem zvc : ∀ (X : List α) (a : α) (Y : List α), (X ++ a :: Y)[X.length]? = some a
 | [], _, _ => rfl
 | _ :: X, a, Y => zvc X a Y
theorem zsy : ∀ (X : List α) (a b : α) (Y : List α), (X ++ a :: b :: Y)[X.length + 1]? = some b
 | [], _, _, _ => rfl
 | _ :: X, a, b, Y => zsy X a b Y
theorem zl8 : ∀ (X : List α) (a c : α) (Y : List α), (X ++ a :: Y).set X.length c = X ++ c :: Y
 | [], _, _, _ => rfl
 | x :: X, a, c, Y => congrArg (x :: ·) (zl8 X a c Y)
theorem znw : ∀ (X : List α) (a b c : α) (Y : List α), (X ++ a :: b :: Y).set (X.length + 1) c = X ++ a :: c :: Y
 | [], _, _, _, _ => rfl
 | x :: X, a, b, c, Y => congrArg (x :: ·) (znw X a b c Y)
theorem zzl : ∀ (X : List α) (a : α) (Y : List α), (X ++ a :: Y).eraseIdx X.length = X ++ Y
 | [], _, _ => rfl
 | x :: X, a, Y => congrArg (x :: ·) (zzl X a Y)
theorem zt8 : ∀ (X : List α) (a b : α) (Y : List α), (X ++ a :: b :: Y).eraseIdx (X.length + 1) = X ++ a :: Y
 | [], _, _, _ => rfl
 | x :: X, a, b, Y => congrArg (x :: ·) (zt8 X a b Y)
theorem ztd (X : List K) (a : K) (Y : List K) : (X ++ a :: Y).getD X.length [] = a := by
 rw [List.getD_eq_getElem?_getD, zvc]; rfl
end
def zg5 (s : Sh) (n : Nat) (S : Nat → Bool) (p : Nat) (ks : List K) {h : Nat} (kids : List (T h)) (i : Nat) : T (h + 1) × (Nat → Bool) :=
 match kids[i - 1]?, kids[i - 1 + 1]? with
 | some a, some b =>
  if mx s h < sz (zcq a b (ks.getD (i - 1) [])) then
   match zcc s n (us S (pg b) false) (zcq a b (ks.getD (i - 1) [])) with
   | (l, some (q, d), S') => (zaw p (ks.set (i - 1) q) ((kids.set (i - 1) l).set (i - 1 + 1) d), S')
   | (_, none, S') => (zaw p ks kids, S')
  else (zaw p (ks.eraseIdx (i - 1)) ((kids.set (i - 1) (zcq a b (ks.getD (i - 1) []))).eraseIdx (i - 1 + 1)), us S (pg b) false)
 | _, _ => (zaw p ks kids, S)
structure qoe (s : Sh) (n : Nat) (S : Nat → Bool) (p : Nat) {h : Nat} (kids : List (T h)) (r : T (h + 1) × (Nat → Bool)) : Prop where
 page : pg r.1 = p
 ents : ents r.1 = kids.flatMap Tr.ents
 ord : Ord r.1
 wd : Wd s r.1
 below : Below s r.1
 le : sz r.1 ≤ kids.length
 ge : kids.length ≤ sz r.1 + 1
 acc : ∀ L, Acc n S (p :: kids.flatMap pgs ++ L) → Acc n r.2 (pgs r.1 ++ L)
theorem Acc.room {n : Nat} {S : Nat → Bool} {L : List Nat} (h : Acc n S L) (h0 : 0 < n) : L.length < n := by
 have := ztw (l := 0 :: L) (L := List.range n) (List.nodup_cons.2 ⟨fun h' => by have := (h.low 0 h').1; omega, h.nodup⟩) fun x hx => by
  rcases List.mem_cons.1 hx with rfl | hx
  ·exact List.mem_range.2 h0
  ·exact List.mem_range.2 (h.low x hx).2
 rw [List.length_range, List.length_cons] at this
 omega
theorem qmh (s : Sh) (n : Nat) (hn : 0 < n) (h2 : ∀ h, 2 ≤ mx s h) (S : Nat → Bool) (p : Nat) {h : Nat} {P R : List K} {q0 : K} {X Y : List (T h)} {a b : T h} (hl : X.length = P.length) (o1 : Ks (P ++ q0 :: R)) (o2 : Sep (P ++ q0 :: R) ((X ++ a :: b :: Y).map ents)) (o3 : ∀ x ∈ X ++ a :: b :: Y, Ord x)
  (w1 : ∀ k ∈ P ++ q0 :: R, k.length = s.kw) (w2 : ∀ x ∈ X ++ a :: b :: Y, Wd s x) (hB : ∀ x ∈ X ++ a :: b :: Y, Below s x) (hX : ∀ x ∈ X ++ Y, mx s h / 2 ≤ sz x ∧ sz x ≤ mx s h) (hab : sz a + sz b ≤ mx s h + mx s h / 2) (hab2 : mx s h / 2 ≤ sz a + sz b) (i : Nat) (hi : i - 1 = X.length) :
  qoe s n S p (X ++ a :: b :: Y) (zg5 s n S p (P ++ q0 :: R) (X ++ a :: b :: Y) i) := by
 have hm : zg5 s n S p (P ++ q0 :: R) (X ++ a :: b :: Y) i =
   if mx s h < sz a + sz b then
    match zcc s n (us S (pg b) false) (zcq a b q0) with
    | (l, some (q, d), S') => (zaw p (P ++ q :: R) (X ++ l :: d :: Y), S')
    | (_, none, S') => (zaw p (P ++ q0 :: R) (X ++ a :: b :: Y), S')
   else (zaw p (P ++ R) (X ++ zcq a b q0 :: Y), us S (pg b) false) := by
  have e1 : ∀ l, (X ++ a :: b :: Y).set X.length l = X ++ l :: b :: Y := fun l => zl8 X a l (b :: Y)
  have e2 : ∀ l d, (X ++ l :: b :: Y).set (X.length + 1) d = X ++ l :: d :: Y := fun l d => znw X l b d Y
  have e3 : ∀ q, (P ++ q0 :: R).set X.length q = P ++ q :: R := fun q => by rw [hl]; exact zl8 P q0 q R
  have e4 : (P ++ q0 :: R).eraseIdx X.length = P ++ R := by rw [hl]; exact zzl P q0 R
  have e5 : (P ++ q0 :: R).getD X.length [] = q0 := by rw [hl]; exact ztd P q0 R
  have e6 : ∀ l, (X ++ l :: b :: Y).eraseIdx (X.length + 1) = X ++ l :: Y := fun l => zt8 X l b Y
  unfold zg5
  rw [hi, zvc, zsy]
  simp only [e1, e2, e3, e4, e5, e6, zgj]
 rw [hm]
 obtain ⟨k1, k2, k3, k4, k5⟩ := qit o1
 have hsp : Sep (P ++ q0 :: R) ((X.map ents ++ [ents a]) ++ (ents b :: Y.map ents)) := by
  have := o2
  rw [List.map_append, List.map_cons, List.map_cons] at this
  simpa using this
 obtain ⟨t1, t2, t3, t4, t5⟩ := Sep.two (P := P) (X := X.map ents ++ [ents a]) (by simp [hl]) o1 hsp
 have la : ze6 (ents a) q0 := t3 _ (List.mem_append_right _ (.head _))
 have gb : zgn (ents b) q0 := t4 _ (.head _)
 have ma : a ∈ X ++ a :: b :: Y := List.mem_append_right _ (.head _)
 have mb : b ∈ X ++ a :: b :: Y := List.mem_append_right _ (.tail _ (.head _))
 have mX : ∀ x ∈ X, x ∈ X ++ a :: b :: Y := fun x hx => List.mem_append_left _ hx
 have mY : ∀ x ∈ Y, x ∈ X ++ a :: b :: Y := fun x hx => List.mem_append_right _ (.tail _ (.tail _ hx))
 have hO := zy5 s h2 a b q0 (o3 a ma) (o3 b mb) (hB a ma) (hB b mb) la gb
 have hW := qfz s a b q0 (w2 a ma) (w2 b mb) (w1 q0 (List.mem_append_right _ (.head _)))
 have hBl := zq5 s a b q0 (hB a ma) (hB b mb)
 have hents := qf1 a b q0
 have hflat : (X ++ a :: b :: Y).flatMap ents = X.flatMap ents ++ ((ents a ++ ents b) ++ Y.flatMap ents) := by
  rw [List.flatMap_append, List.flatMap_cons, List.flatMap_cons, List.append_assoc]
 -- the keys behind are greater, those ahead are not
 have gP : ∀ k ∈ P, zgn (ents a ++ ents b) k := fun k hk x hx => by
  rcases List.mem_append.1 hx with hx | hx
  ·obtain ⟨j, hj, rfl⟩ := List.getElem_of_mem hk
   obtain ⟨-, p2⟩ := t1.part k1
   have hlen := t1.len
   have := p2 j (X.map ents).length hj (by simp) (by rw [List.length_map]; omega)
   rw [List.getElem_append_right (Nat.le_refl _)] at this
   simp only [Nat.sub_self, List.getElem_cons_zero] at this
   exact this x hx
  ·exact t5 k hk _ (.head _) x hx
 have lR : ∀ k ∈ R, ze6 (ents a ++ ents b) k := fun k hk x hx => by
  rcases List.mem_append.1 hx with hx | hx
  ·exact zb5 (la x hx) (k4 k hk)
  ·obtain ⟨j, hj, rfl⟩ := List.getElem_of_mem hk
   obtain ⟨p1, -⟩ := t2.part k2
   have := p1 j 0 hj (by simp) (Nat.zero_le _)
   exact this x hx
 have gY : ∀ k ∈ P, ∀ e ∈ Y.map ents, zgn e k := fun k hk e he => t5 k hk e (.tail _ he)
 have lX : ∀ e ∈ X.map ents, ze6 e q0 := fun e he => t3 e (List.mem_append_left _ he)
 have hperm : (p :: (X ++ a :: b :: Y).flatMap pgs).Perm (pg b :: (p :: (X.flatMap pgs ++ (pgs (zcq a b q0) ++ Y.flatMap pgs)))) := by
  rw [List.flatMap_append, List.flatMap_cons, List.flatMap_cons]
  refine List.Perm.trans ?_ (.swap _ _ _)
  refine .cons _ ?_
  refine (List.Perm.append_left _ ?_).trans List.perm_middle
  rw [← List.append_assoc]
  exact List.Perm.append_right _ (qao a b q0)
 split
 ·rename_i hbig
  have hsok := zn3 s n (us S (pg b) false) (zcq a b q0) hO hW hBl (by rw [zgj]; exact hab) (h2 h)
  have hspg := qab s n (us S (pg b) false) (zcq a b q0)
  rw [hents] at hsok
  obtain ⟨⟨l, g, S'⟩, hr⟩ : ∃ r, zcc s n (us S (pg b) false) (zcq a b q0) = r := ⟨_, rfl⟩
  have hsn : g ≠ none := fun hg => by
   subst hg
   have := (hsok.none (by rw [hr])).2.2.2.1
   have h3 := (hspg.none (by rw [hr]))
   -- a split zpy a node as it is only if it is not too great
   have hle : ∀ {h : Nat} (t : T h) (S : Nat → Bool), (zcc s n S t).2.1 = none → sz t ≤ mx s h := by
    intro h t S hnone
    cases h with
    | zero =>
     obtain ⟨tp, te⟩ := t
     change (zcc s n S (zbk tp te)).2.1 = none at hnone
     rw [zlz] at hnone
     split at hnone
     ·rename_i hc; exact hc
     ·cases hnone
    | succ h =>
     obtain ⟨tp, tk, tc⟩ := t
     change (zcc s n S (zaw tp tk tc)).2.1 = none at hnone
     rw [zlr] at hnone
     split at hnone
     ·rename_i hc; exact hc
     ·cases hnone
   have := hle (zcq a b q0) (us S (pg b) false) (by rw [hr])
   rw [zgj] at this
   omega
  rw [hr] at hsok hspg ⊢
  match g, hsn with
  | some (q, d), _ =>
   obtain ⟨e1, e2, e3, e4, e5, e6, e7, e8, e9, e10, e11, e12, e13, e14⟩ := hsok.some q d rfl
   obtain ⟨g1, g2, g3⟩ := hspg.some q d rfl
   simp only at e1 e2 e3 e4 e5 e6 e7 e8 e9 e10 e11 e12 e13 e14 g1 g2 g3 ⊢
   have hh := h2 h
   have nl := zhv s h2 l e13 (by omega)
   have nd := zhv s h2 d e14 (by omega)
   obtain ⟨x1, hx1⟩ := List.exists_mem_of_ne_nil _ nl
   obtain ⟨x2, hx2⟩ := List.exists_mem_of_ne_nil _ nd
   have s1 : ∀ x ∈ ents l, x ∈ ents a ++ ents b := fun x hx => by rw [← e1]; exact List.mem_append_left _ hx
   have s2 : ∀ x ∈ ents d, x ∈ ents a ++ ents b := fun x hx => by rw [← e1]; exact List.mem_append_right _ hx
   have qP : ∀ k ∈ P, kl k q := fun k hk => zdg (gP k hk x1 (s1 x1 hx1)) (e7 x1 hx1)
   have qR : ∀ k ∈ R, kl q k := fun k hk => zdg (e8 x2 hx2) (lR k hk x2 (s2 x2 hx2))
   have hSep : Sep (P ++ q :: R) ((X.map ents ++ [ents l]) ++ (ents d :: Y.map ents)) := by
    refine Sep.join (t2.first fun k hk x hx => lR k hk x (s2 x hx)) (fun e he => ?_) (t1.last fun k hk x hx => gP k hk x (s1 x hx)) (fun k hk e he => ?_) fun e he => ?_
    ·rcases List.mem_cons.1 he with rfl | he
     ·exact e8
     ·intro x hx hxq
      cases hRl : R with
      | nil => 
       have hlen := t2.len
       rw [hRl] at hlen
       simp at hlen
       rw [hlen] at he
       cases he
      | cons r R' =>
       obtain ⟨-, p2⟩ := t2.part k2
       obtain ⟨j, hj, rfl⟩ := List.getElem_of_mem he
       have := p2 0 (j + 1) (by rw [hRl]; simp) (by simpa using hj) (Nat.succ_pos _)
       rw [List.getElem_cons_succ] at this
       exact this x hx (zb5 hxq (qR _ (List.getElem_mem _)))
    ·rcases List.mem_cons.1 he with rfl | he
     ·exact fun x hx => gP k hk x (s2 x hx)
     ·exact gY k hk e he
    ·rcases List.mem_append.1 he with he | he
     ·intro x hx
      cases hPl : P with
      | nil =>
       have hX0 : X = [] := by rw [hPl] at hl; exact List.eq_nil_of_length_eq_zero hl
       rw [hX0] at he
       cases he
      | cons r P' =>
       obtain ⟨j, hj, rfl⟩ := List.getElem_of_mem he
       rw [List.length_map] at hj
       obtain ⟨p1, -⟩ := t1.part k1
       have := p1 j j (by omega) (by simp; omega) (Nat.le_refl _)
       rw [List.getElem_append_left (by rw [List.length_map]; exact hj)] at this
       exact zb5 (this x hx) (qP _ (List.getElem_mem _))
     ·exact (List.mem_singleton.1 he) ▸ e7
   refine ⟨rfl, ?_, ⟨qet k1 k2 qP qR, ?_, fun x hx => ?_⟩, ⟨fun k hk => ?_, fun x hx => ?_⟩, fun x hx => ?_, ?_, ?_, fun L hA => ?_⟩
   ·show (X ++ l :: d :: Y).flatMap ents = (X ++ a :: b :: Y).flatMap ents
    rw [hflat, List.flatMap_append, List.flatMap_cons, List.flatMap_cons, ← e1, List.append_assoc]
   ·show Sep (P ++ q :: R) ((X ++ l :: d :: Y).map ents)
    rw [List.map_append, List.map_cons, List.map_cons]
    simpa using hSep
   ·rcases List.mem_append.1 hx with hx | hx
    ·exact o3 x (mX x hx)
    ·rcases List.mem_cons.1 hx with rfl | hx
     ·exact e2
     ·rcases List.mem_cons.1 hx with rfl | hx
      ·exact e3
      ·exact o3 x (mY x hx)
   ·rcases List.mem_append.1 hk with hk | hk
    ·exact w1 k (List.mem_append_left _ hk)
    ·rcases List.mem_cons.1 hk with rfl | hk
     ·exact e6
     ·exact w1 k (List.mem_append_right _ (.tail _ hk))
   ·rcases List.mem_append.1 hx with hx | hx
    ·exact w2 x (mX x hx)
    ·rcases List.mem_cons.1 hx with rfl | hx
     ·exact e4
     ·rcases List.mem_cons.1 hx with rfl | hx
      ·exact e5
      ·exact w2 x (mY x hx)
   ·rcases List.mem_append.1 hx with hx | hx
    ·obtain ⟨c1, c2⟩ := hX x (List.mem_append_left _ hx); exact ⟨c1, c2, hB x (mX x hx)⟩
    ·rcases List.mem_cons.1 hx with rfl | hx
     ·exact ⟨e9, e10, e13⟩
     ·rcases List.mem_cons.1 hx with rfl | hx
      ·exact ⟨e11, e12, e14⟩
      ·obtain ⟨c1, c2⟩ := hX x (List.mem_append_right _ hx); exact ⟨c1, c2, hB x (mY x hx)⟩
   ·show (X ++ l :: d :: Y).length ≤ _; simp
   ·show _ ≤ (X ++ l :: d :: Y).length + 1; simp
   ·have hA1 := hA.perm ((List.Perm.append_right L hperm))
    have hA2 : Acc n (us S (pg b) false) ((p :: (X.flatMap pgs ++ (pgs (zcq a b q0) ++ Y.flatMap pgs))) ++ L) := hA1.del
    have hroom := hA1.room hn
    have hA3 := hA2.add (by rw [List.length_append] at hroom ⊢; rw [List.length_cons] at hroom; omega)
    rw [g3]
    refine hA3.perm ?_
    show (nw n (us S (pg b) false) :: ((p :: (X.flatMap pgs ++ (pgs (zcq a b q0) ++ Y.flatMap pgs))) ++ L)).Perm ((p :: (X ++ l :: d :: Y).flatMap pgs) ++ L)
    rw [← List.cons_append]
    refine List.Perm.append_right L ?_
    refine (List.Perm.swap _ _ _).trans (.cons _ ?_)
    rw [List.flatMap_append, List.flatMap_cons, List.flatMap_cons]
    refine List.perm_middle.symm.trans (List.Perm.append_left _ ?_)
    rw [← List.cons_append, ← List.append_assoc]
    exact List.Perm.append_right _ g1.symm
 ·rename_i hsmall
  have hSep : Sep (P ++ R) (X.map ents ++ (ents a ++ ents b) :: Y.map ents) := Sep.glue (t1.last gP) (t2.first lR) gY
  refine ⟨rfl, ?_, ⟨k5, ?_, fun x hx => ?_⟩, ⟨fun k hk => ?_, fun x hx => ?_⟩, fun x hx => ?_, ?_, ?_, fun L hA => ?_⟩
  ·show (X ++ zcq a b q0 :: Y).flatMap ents = (X ++ a :: b :: Y).flatMap ents
   rw [hflat, List.flatMap_append, List.flatMap_cons, hents]
  ·show Sep (P ++ R) ((X ++ zcq a b q0 :: Y).map ents)
   rw [List.map_append, List.map_cons, hents]
   exact hSep
  ·rcases List.mem_append.1 hx with hx | hx
   ·exact o3 x (mX x hx)
   ·rcases List.mem_cons.1 hx with rfl | hx
    ·exact hO
    ·exact o3 x (mY x hx)
  ·rcases List.mem_append.1 hk with hk | hk
   ·exact w1 k (List.mem_append_left _ hk)
   ·exact w1 k (List.mem_append_right _ (.tail _ hk))
  ·rcases List.mem_append.1 hx with hx | hx
   ·exact w2 x (mX x hx)
   ·rcases List.mem_cons.1 hx with rfl | hx
    ·exact hW
    ·exact w2 x (mY x hx)
  ·rcases List.mem_append.1 hx with hx | hx
   ·obtain ⟨c1, c2⟩ := hX x (List.mem_append_left _ hx); exact ⟨c1, c2, hB x (mX x hx)⟩
   ·rcases List.mem_cons.1 hx with rfl | hx
    ·rw [zgj]; exact ⟨hab2, by omega, hBl⟩
    ·obtain ⟨c1, c2⟩ := hX x (List.mem_append_right _ hx); exact ⟨c1, c2, hB x (mY x hx)⟩
  ·show (X ++ zcq a b q0 :: Y).length ≤ (X ++ a :: b :: Y).length; simp
  ·show (X ++ a :: b :: Y).length ≤ (X ++ zcq a b q0 :: Y).length + 1; simp; omega
  ·have hA1 := hA.perm ((List.Perm.append_right L hperm))
   have hA2 : Acc n (us S (pg b) false) ((p :: (X.flatMap pgs ++ (pgs (zcq a b q0) ++ Y.flatMap pgs))) ++ L) := hA1.del
   show Acc n (us S (pg b) false) ((p :: (X ++ zcq a b q0 :: Y).flatMap pgs) ++ L)
   rw [List.flatMap_append, List.flatMap_cons]
   exact hA2
end Go.Eng.Tr
