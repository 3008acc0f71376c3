/- Trees of pages: a split, and what it keeps. Own work; no condition. -/
/- Trees of pages: Put. Own work; no condition. -/
import Derived.Test.YtkkfifhaobjicaaGreatDoorHb04
namespace Go.Eng.Tr
set_option maxRecDepth 100000
theorem ztg {a m : Nat} (h : m < a) : m / 2 ≤ a / 2 ∧ m / 2 ≤ a - a / 2 := by omega
theorem zsm {a m : Nat} (h : a ≤ m + m / 2) (h2 : 1 ≤ m) : a / 2 ≤ m ∧ a - a / 2 ≤ m := by omega
theorem zjt {α β : Type} (l : List α) (f : α → List β) (k : Nat) : (l.take k).flatMap f ++ (l.drop k).flatMap f = l.flatMap f := by
 rw [← List.flatMap_append, List.take_append_drop]
theorem zlz (s : Sh) (n : Nat) (S : Nat → Bool) (p : Nat) (es : E) : zcc s n S (zbk p es) = if es.length ≤ s.cap then (zbk p es, none, S) else
  (zbk p (es.take (es.length / 2)), some (((es.drop (es.length / 2)).map (·.1)).headD [], zbk (nw n S) (es.drop (es.length / 2))), us S (nw n S) true) := rfl
theorem zlr (s : Sh) (n : Nat) (S : Nat → Bool) (p : Nat) (ks : List K) {h : Nat} (kids : List (T h)) : zcc s n S (zaw p ks kids) = if kids.length ≤ s.fan then (zaw p ks kids, none, S) else
  (zaw p (ks.take (kids.length / 2 - 1)) (kids.take (kids.length / 2)), some (ks.getD (kids.length / 2 - 1) [], zaw (nw n S) (ks.drop (kids.length / 2)) (kids.drop (kids.length / 2))), us S (nw n S) true) := rfl
theorem zn3 (s : Sh) (n : Nat) (S : Nat → Bool) : ∀ {h : Nat} (t : T h), Ord t → Wd s t → Below s t → sz t ≤ mx s h + mx s h / 2 → 2 ≤ mx s h → zkf s t (ents t) (zcc s n S t)
 | 0, (p, es), hO, hW, hB, hm, h2 => by
  have hm : es.length ≤ s.cap + s.cap / 2 := hm
  have h2 : 2 ≤ s.cap := h2
  change zkf s (zbk p es) (ents (zbk p es)) (zcc s n S (zbk p es))
  rw [zlz]
  by_cases hc : es.length ≤ s.cap
  ·rw [if_pos hc]
   exact ⟨rfl, fun _ => ⟨rfl, hO, hW, hc, trivial⟩, fun k d h => (nomatch h)⟩
  ·rw [if_neg hc]
   refine ⟨rfl, fun h => (nomatch h), fun k d hkd => ?_⟩
   obtain ⟨rfl, rfl⟩ := Prod.mk.inj (Option.some.inj hkd)
   obtain ⟨l1, l2⟩ := ztg (a := es.length) (m := s.cap) (by omega)
   obtain ⟨l3, l4⟩ := zsm hm (by omega)
   have hk : es.length / 2 < es.length := by omega
   have hO' : Es es := hO
   have hd : ((es.drop (es.length / 2)).map (·.1)).headD [] = es[es.length / 2].1 := by rw [List.drop_eq_getElem_cons hk]; rfl
   have hlt : ∀ i (hi : i < es.length), i < es.length / 2 → kl es[i].1 es[es.length / 2].1 := fun i hi hik => by
    have := List.pairwise_iff_getElem.1 hO' i (es.length / 2) (by rw [List.length_map]; exact hi) (by rw [List.length_map]; exact hk) hik
    simpa using this
   have hge : ∀ i (hi : i < es.length), es.length / 2 ≤ i → ¬ kl es[i].1 es[es.length / 2].1 := fun i hi hik => by
    rcases Nat.lt_or_ge (es.length / 2) i with h | h
    ·have := List.pairwise_iff_getElem.1 hO' (es.length / 2) i (by rw [List.length_map]; exact hk) (by rw [List.length_map]; exact hi) h
     exact ze0 (by simpa using this)
    ·obtain rfl : i = es.length / 2 := by omega
     exact zdu _
   show es.take (es.length / 2) ++ es.drop (es.length / 2) = es ∧ Es (es.take (es.length / 2)) ∧ Es (es.drop (es.length / 2)) ∧ _ ∧ _ ∧ (((es.drop (es.length / 2)).map (·.1)).headD []).length = s.kw ∧ ze6 (es.take (es.length / 2)) (((es.drop (es.length / 2)).map (·.1)).headD []) ∧ zgn (es.drop (es.length / 2)) (((es.drop (es.length / 2)).map (·.1)).headD []) ∧ s.cap / 2 ≤ (es.take (es.length / 2)).length ∧ (es.take (es.length / 2)).length ≤ s.cap ∧ s.cap / 2 ≤ (es.drop (es.length / 2)).length ∧ (es.drop (es.length / 2)).length ≤ s.cap ∧ True ∧ True
   rw [hd]
   refine ⟨List.take_append_drop _ _, hO'.take _, hO'.drop _, fun q hq => hW q (List.mem_of_mem_take hq), fun q hq => hW q (List.mem_of_mem_drop hq), (hW _ (List.getElem_mem hk)).1, fun q hq => ?_, fun q hq => ?_, ?_, ?_, ?_, ?_, trivial, trivial⟩
   ·obtain ⟨i, hi, rfl⟩ := List.getElem_of_mem hq
    rw [List.length_take] at hi
    rw [List.getElem_take]
    exact hlt i (by omega) (by omega)
   ·obtain ⟨i, hi, rfl⟩ := List.getElem_of_mem hq
    rw [List.length_drop] at hi
    rw [List.getElem_drop]
    exact hge _ (by omega) (by omega)
   ·rw [List.length_take]; omega
   ·rw [List.length_take]; omega
   ·rw [List.length_drop]; omega
   ·rw [List.length_drop]; omega
 | h + 1, (p, ks, kids), hO, hW, hB, hm, h2 => by
  have hm : kids.length ≤ s.fan + s.fan / 2 := hm
  have h2 : 2 ≤ s.fan := h2
  obtain ⟨o1, o2, o3⟩ : Ks ks ∧ Sep ks (kids.map ents) ∧ ∀ x ∈ kids, Ord x := hO
  obtain ⟨w1, w2⟩ : (∀ k ∈ ks, k.length = s.kw) ∧ ∀ x ∈ kids, Wd s x := hW
  have hB : ∀ x ∈ kids, mx s h / 2 ≤ sz x ∧ sz x ≤ mx s h ∧ Below s x := hB
  have hl := o2.len
  rw [List.length_map] at hl
  change zkf s (zaw p ks kids) (ents (zaw p ks kids)) (zcc s n S (zaw p ks kids))
  rw [zlr]
  by_cases hc : kids.length ≤ s.fan
  ·rw [if_pos hc]
   exact ⟨rfl, fun _ => ⟨rfl, ⟨o1, o2, o3⟩, ⟨w1, w2⟩, hc, hB⟩, fun k d h => (nomatch h)⟩
  ·rw [if_neg hc]
   refine ⟨rfl, fun h => (nomatch h), fun k d hkd => ?_⟩
   obtain ⟨rfl, rfl⟩ := Prod.mk.inj (Option.some.inj hkd)
   obtain ⟨l1, l2⟩ := ztg (a := kids.length) (m := s.fan) (by omega)
   obtain ⟨l3, l4⟩ := zsm hm (by omega)
   have hk0 : 0 < kids.length / 2 := by omega
   have hk : kids.length / 2 < kids.length := by omega
   have hkk : kids.length / 2 - 1 < ks.length := by omega
   obtain ⟨p1, p2⟩ := o2.part o1
   obtain ⟨c1, c2⟩ := o2.cut o1 hk0 (by rw [List.length_map]; exact hk)
   rw [← List.map_take] at c1
   rw [← List.map_drop] at c2
   have hd : ks.getD (kids.length / 2 - 1) [] = ks[kids.length / 2 - 1] := by rw [List.getD_eq_getElem?_getD, List.getElem?_eq_getElem hkk]; rfl
   show (kids.take (kids.length / 2)).flatMap ents ++ (kids.drop (kids.length / 2)).flatMap ents = kids.flatMap ents ∧ (Ks (ks.take (kids.length / 2 - 1)) ∧ Sep (ks.take (kids.length / 2 - 1)) ((kids.take (kids.length / 2)).map ents) ∧ ∀ x ∈ kids.take (kids.length / 2), Ord x) ∧ (Ks (ks.drop (kids.length / 2)) ∧ Sep (ks.drop (kids.length / 2)) ((kids.drop (kids.length / 2)).map ents) ∧ ∀ x ∈ kids.drop (kids.length / 2), Ord x) ∧ ((∀ k ∈ ks.take (kids.length / 2 - 1), k.length = s.kw) ∧ ∀ x ∈ kids.take (kids.length / 2), Wd s x) ∧ ((∀ k ∈ ks.drop (kids.length / 2), k.length = s.kw) ∧ ∀ x ∈ kids.drop (kids.length / 2), Wd s x) ∧ (ks.getD (kids.length / 2 - 1) []).length = s.kw ∧ ze6 ((kids.take (kids.length / 2)).flatMap ents) (ks.getD (kids.length / 2 - 1) []) ∧ zgn ((kids.drop (kids.length / 2)).flatMap ents) (ks.getD (kids.length / 2 - 1) []) ∧ s.fan / 2 ≤ (kids.take (kids.length / 2)).length ∧ (kids.take (kids.length / 2)).length ≤ s.fan ∧ s.fan / 2 ≤ (kids.drop (kids.length / 2)).length ∧ (kids.drop (kids.length / 2)).length ≤ s.fan ∧ (∀ x ∈ kids.take (kids.length / 2), mx s h / 2 ≤ sz x ∧ sz x ≤ mx s h ∧ Below s x) ∧ ∀ x ∈ kids.drop (kids.length / 2), mx s h / 2 ≤ sz x ∧ sz x ≤ mx s h ∧ Below s x
   rw [hd]
   refine ⟨zjt _ _ _, ⟨List.Pairwise.sublist (List.take_sublist _ _) o1, c1, fun x hx => o3 x (List.mem_of_mem_take hx)⟩, ⟨List.Pairwise.sublist (List.drop_sublist _ _) o1, c2, fun x hx => o3 x (List.mem_of_mem_drop hx)⟩, ⟨fun k hk => w1 k (List.mem_of_mem_take hk), fun x hx => w2 x (List.mem_of_mem_take hx)⟩, ⟨fun k hk => w1 k (List.mem_of_mem_drop hk), fun x hx => w2 x (List.mem_of_mem_drop hx)⟩, w1 _ (List.getElem_mem hkk), fun q hq => ?_, fun q hq => ?_, ?_, ?_, ?_, ?_, fun x hx => hB x (List.mem_of_mem_take hx), fun x hx => hB x (List.mem_of_mem_drop hx)⟩
   ·obtain ⟨x, hx, hq⟩ := List.mem_flatMap.1 hq
    obtain ⟨i, hi, rfl⟩ := List.getElem_of_mem hx
    rw [List.length_take] at hi
    rw [List.getElem_take] at hq
    have := p1 (kids.length / 2 - 1) i hkk (by rw [List.length_map]; omega) (by omega)
    rw [List.getElem_map] at this
    exact this q hq
   ·obtain ⟨x, hx, hq⟩ := List.mem_flatMap.1 hq
    obtain ⟨i, hi, rfl⟩ := List.getElem_of_mem hx
    rw [List.length_drop] at hi
    rw [List.getElem_drop] at hq
    have := p2 (kids.length / 2 - 1) (kids.length / 2 + i) hkk (by rw [List.length_map]; omega) (by omega)
    rw [List.getElem_map] at this
    exact this q hq
   ·rw [List.length_take]; omega
   ·rw [List.length_take]; omega
   ·rw [List.length_drop]; omega
   ·rw [List.length_drop]; omega
structure zyt (n : Nat) (S : Nat → Bool) (L : List Nat) {h : Nat} (r : Res h) : Prop where
 none : r.2.1 = none → pgs r.1 = L ∧ r.2.2 = S
 some : ∀ k d, r.2.1 = some (k, d) → (pgs r.1 ++ pgs d).Perm (nw n S :: L) ∧ pg d = nw n S ∧ r.2.2 = us S (nw n S) true
theorem qab (s : Sh) (n : Nat) (S : Nat → Bool) : ∀ {h : Nat} (t : T h), zyt n S (pgs t) (zcc s n S t)
 | 0, (p, es) => by
  change zyt n S (pgs (zbk p es)) (zcc s n S (zbk p es))
  rw [zlz]
  split
  ·exact ⟨fun _ => ⟨rfl, rfl⟩, fun k d h => (nomatch h)⟩
  ·refine ⟨fun h => (nomatch h), fun k d hkd => ?_⟩
   obtain ⟨rfl, rfl⟩ := Prod.mk.inj (Option.some.inj hkd)
   exact ⟨.swap _ _ _, rfl, rfl⟩
 | h + 1, (p, ks, kids) => by
  change zyt n S (pgs (zaw p ks kids)) (zcc s n S (zaw p ks kids))
  rw [zlr]
  split
  ·exact ⟨fun _ => ⟨rfl, rfl⟩, fun k d h => (nomatch h)⟩
  ·refine ⟨fun h => (nomatch h), fun k d hkd => ?_⟩
   obtain ⟨rfl, rfl⟩ := Prod.mk.inj (Option.some.inj hkd)
   refine ⟨?_, rfl, rfl⟩
   show ((p :: (kids.take (kids.length / 2)).flatMap pgs) ++ (nw n S :: (kids.drop (kids.length / 2)).flatMap pgs)).Perm (nw n S :: p :: kids.flatMap pgs)
   rw [← zjt kids pgs (kids.length / 2)]
   refine List.perm_middle.trans (.cons _ ?_)
   rfl
/-! ### parts that are others -/
theorem Sep.dropm {ks : List K} {es : List E} : ∀ (m : Nat), Sep ks es → m < es.length → Sep (ks.drop m) (es.drop m)
 | 0, h, _ => h
 | m + 1, h, hm => by
  match ks, es, h with
  | [], [_], _ => simp at hm
  | k :: ks, e :: es, h => exact Sep.dropm m h.2.2 (by simpa using hm)
theorem Sep.takem {ks : List K} {es : List E} : ∀ (m : Nat), Sep ks es → m < es.length → Sep (ks.take m) (es.take (m + 1))
 | 0, h, hm => by
  match ks, es, h with
  | [], [_], _ => trivial
  | k :: ks, e :: es, h => trivial
 | m + 1, h, hm => by
  match ks, es, h with
  | [], [_], _ => simp at hm
  | k :: ks, e :: es, h => exact ⟨h.1, fun e' he => h.2.1 e' (List.mem_of_mem_take he), Sep.takem m h.2.2 (by simpa using hm)⟩
theorem Sep.join {q : K} {ks2 : List K} {es2 : List E} (h2 : Sep ks2 es2) (hge : ∀ e ∈ es2, zgn e q) : ∀ {ks1 : List K} {es1 : List E}, Sep ks1 es1 → (∀ k ∈ ks1, ∀ e ∈ es2, zgn e k) → (∀ e ∈ es1, ze6 e q) → Sep (ks1 ++ q :: ks2) (es1 ++ es2)
 | [], [e], _, _, hl => ⟨hl e (.head _), hge, h2⟩
 | k :: ks1, e :: es1, h, hc, hl => ⟨h.1, fun e' he => by
   rcases List.mem_append.1 he with he | he
   ·exact h.2.1 e' he
   ·exact hc k (.head _) e' he, Sep.join h2 hge h.2.2 (fun k' hk => hc k' (.tail _ hk)) fun e' he => hl e' (.tail _ he)⟩
def Bd (ks : List K) (i : Nat) (e : E) : Prop := (∀ j (hj : j < ks.length), i ≤ j → ze6 e ks[j]) ∧ ∀ j (hj : j < ks.length), j < i → zgn e ks[j]
theorem Sep.bd {ks : List K} {es : List E} (hk : Ks ks) (h : Sep ks es) {i : Nat} (hi : i < es.length) : Bd ks i es[i] := by
 obtain ⟨p1, p2⟩ := h.part hk
 exact ⟨fun j hj hij => p1 j i hj hi hij, fun j hj hij => p2 j i hj hi hij⟩
theorem Sep.set {ks : List K} {es : List E} (hk : Ks ks) (h : Sep ks es) {i : Nat} (e' : E) (hb : Bd ks i e') : Sep ks (es.set i e') := by
 obtain ⟨p1, p2⟩ := h.part hk
 refine Sep.of (by rw [List.length_set]; exact h.len) (fun j hj hj2 => ?_) fun j m hj hm hjm => ?_
 ·rw [List.getElem_set]
  split
  ·rename_i e; subst e; exact hb.1 _ hj (Nat.le_refl _)
  ·exact p1 j j hj (by rw [List.length_set] at hj2; exact hj2) (Nat.le_refl _)
 ·rw [List.getElem_set]
  split
  ·rename_i e; subst e; exact hb.2 _ hj hjm
  ·exact p2 j m hj (by rw [List.length_set] at hm; exact hm) hjm
def ins {α : Type} (l : List α) (i : Nat) (x : α) : List α := l.take i ++ x :: l.drop i
theorem zfv {α : Type} (l : List α) (i : Nat) (x : α) : (ins l i x).length = l.length + 1 := by
 unfold ins
 rw [List.length_append, List.length_cons, List.length_take, List.length_drop]
 omega
theorem zfx {α : Type} {l : List α} {i : Nat} {x y : α} (h : y ∈ ins l i x) : y = x ∨ y ∈ l := by
 unfold ins at h
 rcases List.mem_append.1 h with h | h
 ·exact .inr (List.mem_of_mem_take h)
 ·rcases List.mem_cons.1 h with h | h
  ·exact .inl h
  ·exact .inr (List.mem_of_mem_drop h)
theorem Sep.ins {ks : List K} {es : List E} (hk : Ks ks) (h : Sep ks es) {i : Nat} (hi : i < es.length) {e1 e2 : E} {q : K} (b1 : Bd ks i e1) (b2 : Bd ks i e2) (l1 : ze6 e1 q) (l2 : zgn e2 q)
  (q1 : ∀ j (hj : j < ks.length), j < i → kl ks[j] q) (q2 : ∀ j (hj : j < ks.length), i ≤ j → kl q ks[j]) : Ks (Tr.ins ks i q) ∧ Sep (Tr.ins ks i q) (Tr.ins (es.set i e1) (i + 1) e2) := by
 obtain ⟨p1, p2⟩ := h.part hk
 have hl := h.len
 have hli : i ≤ ks.length := by omega
 constructor
 ·unfold Tr.ins Ks
  rw [List.pairwise_append]
  refine ⟨List.Pairwise.sublist (List.take_sublist _ _) hk, List.pairwise_cons.2 ⟨fun y hy => ?_, List.Pairwise.sublist (List.drop_sublist _ _) hk⟩, fun x hx y hy => ?_⟩
  ·obtain ⟨j, hj, rfl⟩ := List.getElem_of_mem hy
   rw [List.length_drop] at hj
   rw [List.getElem_drop]
   exact q2 _ (by omega) (by omega)
  ·obtain ⟨j, hj, rfl⟩ := List.getElem_of_mem hx
   rw [List.length_take] at hj
   rw [List.getElem_take]
   rcases List.mem_cons.1 hy with rfl | hy
   ·exact q1 j (by omega) (by omega)
   ·obtain ⟨m, hm, rfl⟩ := List.getElem_of_mem hy
    rw [List.length_drop] at hm
    rw [List.getElem_drop]
    exact List.pairwise_iff_getElem.1 hk _ _ (by omega) (by omega) (by omega)
 ·have s1 := (h.set hk e1 b1).takem i (by rw [List.length_set]; exact hi)
  have s2 := (h.set hk e2 b2).dropm i (by rw [List.length_set]; exact hi)
  have e2' : (es.set i e2).drop i = e2 :: es.drop (i + 1) := by
   rw [List.drop_eq_getElem_cons (by rw [List.length_set]; exact hi), List.getElem_set_self, List.drop_set_of_lt (by omega)]
  have e1' : (es.set i e1).drop (i + 1) = es.drop (i + 1) := List.drop_set_of_lt (by omega)
  rw [e2'] at s2
  unfold Tr.ins
  rw [e1']
  refine Sep.join s2 (fun e he => ?_) s1 (fun k hk' e he => ?_) fun e he => ?_
  ·rcases List.mem_cons.1 he with rfl | he
   ·exact l2
   ·obtain ⟨j, hj, rfl⟩ := List.getElem_of_mem he
    rw [List.length_drop] at hj
    rw [List.getElem_drop]
    intro x hx hxq
    exact p2 (i + j) (i + 1 + j) (by omega) (by omega) (by omega) x hx (zb5 hxq (q2 _ (by omega) (by omega)))
  ·obtain ⟨j, hj, rfl⟩ := List.getElem_of_mem hk'
   rw [List.length_take] at hj
   rw [List.getElem_take]
   rcases List.mem_cons.1 he with rfl | he
   ·exact b2.2 j (by omega) (by omega)
   ·obtain ⟨m, hm, rfl⟩ := List.getElem_of_mem he
    rw [List.length_drop] at hm
    rw [List.getElem_drop]
    exact p2 j _ (by omega) (by omega) (by omega)
  ·obtain ⟨j, hj, rfl⟩ := List.getElem_of_mem he
   rw [List.length_take, List.length_set] at hj
   rw [List.getElem_take, List.getElem_set]
   split
   ·exact l1
   ·intro x hx
    exact zb5 (p1 j j (by omega) (by omega) (Nat.le_refl _) x hx) (q1 j (by omega) (by omega))
/-! ### Put -/
def znj (s : Sh) (n : Nat) : {h : Nat} → T h → K → K → (Nat → Bool) → Res h
 | 0, t, k, v, S => zcc s n S (zbk t.1 (zfl t.2 k v))
 | _ + 1, t, k, v, S => match t.2.2[dn t.2.1 k]? with
  | none => (t, none, S)
  | some c => match znj s n c k v S with
   | (c', none, S') => (zaw t.1 t.2.1 (t.2.2.set (dn t.2.1 k) c'), none, S')
   | (c', some (q, d), S') => zcc s n S' (zaw t.1 (ins t.2.1 (dn t.2.1 k) q) (ins (t.2.2.set (dn t.2.1 k) c') (dn t.2.1 k + 1) d))
theorem zi9 : ∀ {e : E} {k v : K} {q : K × K}, q ∈ zfl e k v → q = (k, v) ∨ q ∈ e
 | [], _, _, _, h => by rcases List.mem_cons.1 h with h | h; exact .inl h; cases h
 | p :: r, k, v, q, h => by
  unfold zfl at h
  split at h
  ·rcases List.mem_cons.1 h with h | h
   ·exact .inl h
   ·exact .inr (.tail _ h)
  ·split at h
   ·rcases List.mem_cons.1 h with h | h
    ·exact .inl h
    ·exact .inr h
   ·rcases List.mem_cons.1 h with rfl | h
    ·exact .inr (.head _)
    ·rcases zi9 h with h | h
     ·exact .inl h
     ·exact .inr (.tail _ h)
theorem zhu : ∀ (e : E) (k v : K), e.length ≤ (zfl e k v).length ∧ (zfl e k v).length ≤ e.length + 1
 | [], _, _ => ⟨Nat.zero_le _, Nat.le_refl _⟩
 | p :: r, k, v => by
  have := zhu r k v
  unfold zfl
  split
  ·exact ⟨Nat.le_refl _, Nat.le_succ _⟩
  ·split
   ·simp
   ·simp; omega
theorem zsv : ∀ {e : E} {k v : K}, Es e → Es (zfl e k v)
 | [], _, _, _ => List.pairwise_singleton _ _
 | p :: r, k, v, h => by
  obtain ⟨h1, h2⟩ : (∀ a ∈ r.map (·.1), kl p.1 a) ∧ Es r := List.pairwise_cons.1 h
  unfold zfl
  split
  ·rename_i e; subst e
   exact List.pairwise_cons.2 ⟨h1, h2⟩
  ·split
   ·rename_i hne hlt
    refine List.pairwise_cons.2 ⟨fun a ha => ?_, h⟩
    rcases List.mem_cons.1 ha with rfl | ha
    ·exact hlt
    ·exact zb5 hlt (h1 a ha)
   ·rename_i hne hlt
    refine List.pairwise_cons.2 ⟨fun a ha => ?_, zsv h2⟩
    obtain ⟨q, hq, rfl⟩ := List.mem_map.1 ha
    rcases zi9 hq with rfl | hq
    ·exact qnb hlt hne
    ·exact h1 _ (List.mem_map.2 ⟨q, hq, rfl⟩)
theorem zhv (s : Sh) (h2 : ∀ h, 2 ≤ mx s h) : ∀ {h : Nat} (t : T h), Below s t → 1 ≤ sz t → ents t ≠ []
 | 0, (p, es), _, hz, he => by
  have he : es = [] := he
  subst he
  exact absurd (show 1 ≤ 0 from hz) (by decide)
 | h + 1, (p, ks, kids), hB, hz, he => by
  have hB : ∀ x ∈ kids, mx s h / 2 ≤ sz x ∧ sz x ≤ mx s h ∧ Below s x := hB
  have he : kids.flatMap ents = [] := he
  match kids, hz with
  | x :: r, _ =>
   obtain ⟨b1, b2, b3⟩ := hB x (.head _)
   have := h2 h
   rw [List.flatMap_cons, List.append_eq_nil_iff] at he
   exact zhv s h2 x b3 (by omega) he.1
theorem qop {ks : List K} (hk : Ks ks) {k v : K} {e : E} (hb : Bd ks (dn ks k) e) : Bd ks (dn ks k) (zfl e k v) := by
 refine ⟨fun j hj hij p hp => ?_, fun j hj hij p hp => ?_⟩
 ·rcases zi9 hp with rfl | hp
  ·exact qne hk hj hij
  ·exact hb.1 j hj hij p hp
 ·rcases zi9 hp with rfl | hp
  ·exact qm1 hj hij
  ·exact hb.2 j hj hij p hp
theorem Bd.sub {ks : List K} {i : Nat} {e e' : E} (h : Bd ks i e) (hs : ∀ p ∈ e', p ∈ e) : Bd ks i e' :=
 ⟨fun j hj hij p hp => h.1 j hj hij p (hs p hp), fun j hj hij p hp => h.2 j hj hij p (hs p hp)⟩
theorem zz5 {α : Type} (l : List α) (f : α → E) {i : Nat} (hi : i < l.length) (x : α) : (l.set i x).flatMap f = (l.take i).flatMap f ++ (f x ++ (l.drop (i + 1)).flatMap f) := by
 rw [zhc (l.set i x) f (i := i) (by rw [List.length_set]; exact hi), List.getElem_set_self, List.take_set_of_le (by omega), List.drop_set_of_lt (by omega)]
theorem zuz {α : Type} (l : List α) (f : α → E) {i : Nat} (hi : i < l.length) (x y : α) : (ins (l.set i x) (i + 1) y).flatMap f = (l.take i).flatMap f ++ ((f x ++ f y) ++ (l.drop (i + 1)).flatMap f) := by
 unfold ins
 rw [List.take_succ_eq_append_getElem (by rw [List.length_set]; exact hi), List.getElem_set_self, List.take_set_of_le (by omega), List.drop_set_of_lt (by omega), List.flatMap_append, List.flatMap_append, List.flatMap_cons]
 simp
theorem map_set' {α β : Type} (l : List α) (f : α → β) (i : Nat) (x : α) : (l.set i x).map f = (l.map f).set i (f x) := List.map_set
theorem zpx {α β : Type} (l : List α) (f : α → β) (i : Nat) (x : α) : (ins l i x).map f = ins (l.map f) i (f x) := by
 unfold ins; simp
theorem zqx (s : Sh) (n : Nat) (h2 : ∀ h, 2 ≤ mx s h) (k v : K) (hk : k.length = s.kw) (hv : v.length = s.vw) : ∀ {h : Nat} (t : T h) (S : Nat → Bool), Ord t → Wd s t → Below s t → sz t ≤ mx s h → zkf s t (zfl (ents t) k v) (znj s n t k v S) ∧ ((znj s n t k v S).2.1 = none → sz t ≤ sz (znj s n t k v S).1)
 | 0, (p, es), S, hO, hW, hB, hm => by
  have hc := h2 0
  have hc : 2 ≤ s.cap := hc
  have hm : es.length ≤ s.cap := hm
  have hl := zhu es k v
  have := zn3 s n S (zbk p (zfl es k v)) (zsv (e := es) hO) (fun q hq => by
   rcases zi9 hq with rfl | hq
   ·exact ⟨hk, hv⟩
   ·exact hW q hq) trivial (by show (zfl es k v).length ≤ s.cap + s.cap / 2; omega) hc
  refine ⟨⟨this.page, this.none, this.some⟩, fun hn => ?_⟩
  show es.length ≤ sz (zcc s n S (zbk p (zfl es k v))).1
  have hn : (zcc s n S (zbk p (zfl es k v))).2.1 = none := hn
  rw [zlz] at hn ⊢
  split at hn
  ·rename_i hcc
   rw [if_pos hcc]
   exact hl.1
  ·cases hn
 | h + 1, (p, ks, kids), S, hO, hW, hB, hm => by
  obtain ⟨o1, o2, o3⟩ : Ks ks ∧ Sep ks (kids.map ents) ∧ ∀ x ∈ kids, Ord x := hO
  obtain ⟨w1, w2⟩ : (∀ k ∈ ks, k.length = s.kw) ∧ ∀ x ∈ kids, Wd s x := hW
  have hB : ∀ x ∈ kids, mx s h / 2 ≤ sz x ∧ sz x ≤ mx s h ∧ Below s x := hB
  have hm : kids.length ≤ s.fan := hm
  have hf : 2 ≤ s.fan := h2 (h + 1)
  have hl := o2.len
  rw [List.length_map] at hl
  have hi : dn ks k < kids.length := by have := znq ks k; omega
  have hc : kids[dn ks k]? = some kids[dn ks k] := List.getElem?_eq_getElem hi
  have hcm := List.getElem_mem hi
  obtain ⟨ih, ihm⟩ := zqx s n h2 k v hk hv kids[dn ks k] S (o3 _ hcm) (w2 _ hcm) (hB _ hcm).2.2 (hB _ hcm).2.1
  obtain ⟨m1, m2⟩ := Sep.mid (kids := kids) o1 o2 k
  have hbd := o2.bd o1 (i := dn ks k) (by rw [List.length_map]; exact hi)
  rw [List.getElem_map] at hbd
  have hbp := qop o1 (v := v) hbd
  have he : zfl (kids.flatMap ents) k v = (kids.take (dn ks k)).flatMap ents ++ (zfl (ents kids[dn ks k]) k v ++ (kids.drop (dn ks k + 1)).flatMap ents) := by
   rw [zhc kids ents hi, qio m1 m2]
  have hput : znj s n (h := h + 1) (p, ks, kids) k v S = match znj s n kids[dn ks k] k v S with
   | (c', none, S') => (zaw p ks (kids.set (dn ks k) c'), none, S')
   | (c', some (q, d), S') => zcc s n S' (zaw p (ins ks (dn ks k) q) (ins (kids.set (dn ks k) c') (dn ks k + 1) d)) := by
   show (match kids[dn ks k]? with | none => _ | some c => _) = _
   rw [hc]
  show zkf s (zaw p ks kids) (zfl (kids.flatMap ents) k v) _ ∧ _
  rw [hput, he]
  obtain ⟨⟨c', g, S'⟩, hr⟩ : ∃ r, znj s n kids[dn ks k] k v S = r := ⟨_, rfl⟩
  rw [hr] at ih ihm ⊢
  cases g with
  | none =>
   obtain ⟨n1, n2, n3, n4, n5⟩ := ih.none rfl
   have hmn : sz kids[dn ks k] ≤ sz c' := ihm rfl
   refine ⟨⟨rfl, fun _ => ⟨?_, ⟨o1, ?_, fun x hx => ?_⟩, ⟨w1, fun x hx => ?_⟩, ?_, fun x hx => ?_⟩, fun k d hkd => (nomatch hkd)⟩, fun _ => ?_⟩
   ·show (kids.set (dn ks k) c').flatMap ents = _
    rw [zz5 _ _ hi, n1]
   ·show Sep ks ((kids.set (dn ks k) c').map ents)
    rw [map_set', n1]
    exact o2.set o1 _ hbp
   ·rcases List.mem_or_eq_of_mem_set hx with hx | rfl
    ·exact o3 x hx
    ·exact n2
   ·rcases List.mem_or_eq_of_mem_set hx with hx | rfl
    ·exact w2 x hx
    ·exact n3
   ·show (kids.set (dn ks k) c').length ≤ s.fan
    rw [List.length_set]; exact hm
   ·rcases List.mem_or_eq_of_mem_set hx with hx | rfl
    ·exact hB x hx
    ·have := (hB _ hcm).1
     exact ⟨by omega, n4, n5⟩
   ·show kids.length ≤ (kids.set (dn ks k) c').length
    rw [List.length_set]; exact Nat.le_refl _
  | some g =>
   obtain ⟨q, d⟩ := g
   obtain ⟨n1, n2, n3, n4, n5, n6, n7, n8, n9, n10, n11, n12, n13, n14⟩ := ih.some q d rfl
   have hh := h2 h
   have ne1 := zhv s h2 c' n13 (by show 1 ≤ sz c'; have : mx s h / 2 ≤ sz c' := n9; omega)
   have ne2 := zhv s h2 d n14 (by omega)
   obtain ⟨x1, hx1⟩ := List.exists_mem_of_ne_nil _ ne1
   obtain ⟨x2, hx2⟩ := List.exists_mem_of_ne_nil _ ne2
   have b1 : Bd ks (dn ks k) (ents c') := hbp.sub fun p hp => by rw [← n1]; exact List.mem_append_left _ hp
   have b2 : Bd ks (dn ks k) (ents d) := hbp.sub fun p hp => by rw [← n1]; exact List.mem_append_right _ hp
   obtain ⟨i1, i2⟩ := o2.ins o1 (i := dn ks k) (by rw [List.length_map]; exact hi) b1 b2 n7 n8 (fun j hj hij => zdg (b1.2 j hj hij x1 hx1) (n7 x1 hx1)) fun j hj hij => zdg (n8 x2 hx2) (b2.1 j hj hij x2 hx2)
   have hst : zkf s (zaw p (ins ks (dn ks k) q) (ins (kids.set (dn ks k) c') (dn ks k + 1) d)) ((ins (kids.set (dn ks k) c') (dn ks k + 1) d).flatMap ents) (zcc s n S' (zaw p (ins ks (dn ks k) q) (ins (kids.set (dn ks k) c') (dn ks k + 1) d))) := by
    refine zn3 s n S' (zaw p (ins ks (dn ks k) q) (ins (kids.set (dn ks k) c') (dn ks k + 1) d)) ⟨i1, ?_, fun x hx => ?_⟩ ⟨fun x hx => ?_, fun x hx => ?_⟩ (fun x hx => ?_) ?_ hf
    ·show Sep _ ((ins (kids.set (dn ks k) c') (dn ks k + 1) d).map ents)
     rw [zpx, map_set']
     exact i2
    ·rcases zfx hx with rfl | hx
     ·exact n3
     ·rcases List.mem_or_eq_of_mem_set hx with hx | rfl
      ·exact o3 x hx
      ·exact n2
    ·rcases zfx hx with rfl | hx
     ·exact n6
     ·exact w1 x hx
    ·rcases zfx hx with rfl | hx
     ·exact n5
     ·rcases List.mem_or_eq_of_mem_set hx with hx | rfl
      ·exact w2 x hx
      ·exact n4
    ·rcases zfx hx with rfl | hx
     ·exact ⟨n11, n12, n14⟩
     ·rcases List.mem_or_eq_of_mem_set hx with hx | rfl
      ·exact hB x hx
      ·exact ⟨n9, n10, n13⟩
    ·show (ins (kids.set (dn ks k) c') (dn ks k + 1) d).length ≤ s.fan + s.fan / 2
     rw [zfv, List.length_set]; omega
   rw [zuz _ _ hi, n1] at hst
   refine ⟨⟨hst.page, hst.none, hst.some⟩, fun hn => ?_⟩
   show kids.length ≤ sz (zcc s n S' (zaw p (ins ks (dn ks k) q) (ins (kids.set (dn ks k) c') (dn ks k + 1) d))).1
   have hn : (zcc s n S' (zaw p (ins ks (dn ks k) q) (ins (kids.set (dn ks k) c') (dn ks k + 1) d))).2.1 = none := hn
   rw [zlr] at hn ⊢
   split at hn
   ·rename_i hcc
    rw [if_pos hcc]
    show kids.length ≤ (ins (kids.set (dn ks k) c') (dn ks k + 1) d).length
    rw [zfv, List.length_set]; omega
   ·cases hn
end Go.Eng.Tr
