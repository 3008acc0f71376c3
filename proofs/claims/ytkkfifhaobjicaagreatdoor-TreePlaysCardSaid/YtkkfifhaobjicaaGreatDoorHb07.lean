/- Trees of pages: Delete. Own work; no condition. -/
/- Trees of pages: how many pages; at the root. Own work; no condition. -/
import Derived.Test.YtkkfifhaobjicaaGreatDoorHb06
namespace Go.Eng.Tr
set_option maxRecDepth 100000
def keys (e : E) : List K := e.map (·.1)
theorem zy7 {e : E} {k : K} : (zlo e k).isSome = true ↔ k ∈ keys e := by
 unfold zlo keys
 rw [Option.isSome_map, List.find?_isSome]
 constructor
 ·rintro ⟨p, hp, h⟩; exact List.mem_map.2 ⟨p, hp, of_decide_eq_true h⟩
 ·intro h
  obtain ⟨p, hp, h⟩ := List.mem_map.1 h
  exact ⟨p, hp, decide_eq_true h⟩
theorem zy6 : ∀ {e : E} {k : K}, Es e → k ∈ keys e → (zcy e k).length + 1 = e.length
 | [], _, _, h => by cases h
 | p :: r, k, h, hk => by
  obtain ⟨h1, h2⟩ : (∀ a ∈ r.map (·.1), kl p.1 a) ∧ Es r := List.pairwise_cons.1 h
  unfold zcy
  by_cases e : p.1 = k
  ·have hr : r.filter (fun q => decide (q.1 ≠ k)) = r := List.filter_eq_self.2 fun q hq => by
    have := zhg (h1 q.1 (List.mem_map.2 ⟨q, hq, rfl⟩))
    rw [e] at this
    simpa using this.symm
   rw [List.filter_cons_of_neg (by simpa using e), hr, List.length_cons]
  ·have hk' : k ∈ keys r := by
    rcases List.mem_cons.1 hk with hk | hk
    ·exact absurd hk.symm e
    ·exact hk
   rw [List.filter_cons_of_pos (by simpa using e), List.length_cons, List.length_cons]
   have := zy6 h2 hk'
   unfold zcy at this
   omega
theorem zxr {e : E} {k : K} (h : Es e) : Es (zcy e k) := by
 unfold Es at *
 exact List.Pairwise.sublist (List.Sublist.map _ List.filter_sublist) h
theorem zsw {e : E} {k : K} {p : K × K} (h : p ∈ zcy e k) : p ∈ e := (List.mem_filter.1 h).1
def zcw (s : Sh) (n : Nat) : {h : Nat} → T h → K → (Nat → Bool) → T h × Bool × (Nat → Bool)
 | 0, t, k, S => if fd (keys t.2) k then (zbk t.1 (zcy t.2 k), true, S) else (t, false, S)
 | h + 1, t, k, S => match t.2.2[dn t.2.1 k]? with
  | none => (t, false, S)
  | some c => match zcw s n c k S with
   | (_, false, S') => (t, false, S')
   | (c', true, S') => if sz c' < mx s h / 2 then ((zg5 s n S' t.1 t.2.1 (t.2.2.set (dn t.2.1 k) c') (dn t.2.1 k)).1, true, (zg5 s n S' t.1 t.2.1 (t.2.2.set (dn t.2.1 k) c') (dn t.2.1 k)).2)
    else (zaw t.1 t.2.1 (t.2.2.set (dn t.2.1 k) c'), true, S')
structure qk3 (s : Sh) (n : Nat) (S : Nat → Bool) {h : Nat} (t : T h) (k : K) (r : T h × Bool × (Nat → Bool)) : Prop where
 is : r.2.1 = true ↔ k ∈ keys (ents t)
 no : r.2.1 = false → r.1 = t ∧ r.2.2 = S
 yes : r.2.1 = true → pg r.1 = pg t ∧ ents r.1 = zcy (ents t) k ∧ Ord r.1 ∧ Wd s r.1 ∧ Below s r.1 ∧ sz r.1 ≤ sz t ∧ sz t ≤ sz r.1 + 1 ∧ ∀ L, Acc n S (pgs t ++ L) → Acc n r.2.2 (pgs r.1 ++ L)
theorem qjh {α : Type} (l : List α) {j : Nat} (h : j + 1 < l.length) : l = l.take j ++ l[j] :: l[j + 1] :: l.drop (j + 2) := by
 conv => lhs; rw [← List.take_append_drop j l, List.drop_eq_getElem_cons (by omega : j < l.length), List.drop_eq_getElem_cons h]
theorem zne {α : Type} (l : List α) {j : Nat} (h : j < l.length) : l = l.take j ++ l[j] :: l.drop (j + 1) := by
 conv => lhs; rw [← List.take_append_drop j l, List.drop_eq_getElem_cons h]
theorem qh2 {A e B : E} {k : K} (hA : ze6 A k) (hB : zxf B k) : k ∈ keys (A ++ (e ++ B)) ↔ k ∈ keys e := by
 unfold keys
 rw [List.map_append, List.map_append, List.mem_append, List.mem_append]
 refine ⟨fun h => ?_, fun h => .inr (.inl h)⟩
 rcases h with h | h | h
 ·obtain ⟨p, hp, e⟩ := List.mem_map.1 h
  exact absurd e (zhg (hA p hp))
 ·exact h
 ·obtain ⟨p, hp, e⟩ := List.mem_map.1 h
  exact absurd e.symm (zhg (hB p hp))
theorem zky (s : Sh) (n : Nat) (hn : 0 < n) (h2 : ∀ h, 2 ≤ mx s h) (h4 : 4 ≤ s.fan) (k : K) : ∀ {h : Nat} (t : T h) (S : Nat → Bool), Ord t → Wd s t → Below s t → sz t ≤ mx s h → (1 ≤ h → 2 ≤ sz t) → qk3 s n S t k (zcw s n t k S)
 | 0, (p, es), S, hO, hW, hB, hm, _ => by
  have hO : Es es := hO
  have hr : zcw s n (zbk p es) k S = if fd (keys es) k then (zbk p (zcy es k), true, S) else (zbk p es, false, S) := rfl
  show qk3 s n S (zbk p es) k (zcw s n (zbk p es) k S)
  rw [hr]
  cases hf : fd (keys es) k with
  | false =>
   rw [if_neg Bool.false_ne_true]
   refine ⟨⟨fun h => (nomatch h), fun h => ?_⟩, fun _ => ⟨rfl, rfl⟩, fun h => (nomatch h)⟩
   rw [show fd (keys es) k = true from (zzq hO).2 h] at hf
   cases hf
  | true =>
   rw [if_pos rfl]
   have hk := (zzq hO).1 hf
   have hlen := zy6 hO hk
   refine ⟨⟨fun _ => hk, fun _ => rfl⟩, fun h => (nomatch h), fun _ => ⟨rfl, rfl, zxr hO, fun q hq => hW q (zsw hq), trivial, ?_, ?_, fun L hA => hA⟩⟩
   ·show (zcy es k).length ≤ es.length; omega
   ·show es.length ≤ (zcy es k).length + 1; omega
 | h + 1, (p, ks, kids), S, hO, hW, hB, hm, h2k => by
  obtain ⟨o1, o2, o3⟩ : Ks ks ∧ Sep ks (kids.map ents) ∧ ∀ x ∈ kids, Ord x := hO
  obtain ⟨w1, w2⟩ : (∀ k ∈ ks, k.length = s.kw) ∧ ∀ x ∈ kids, Wd s x := hW
  have hB : ∀ x ∈ kids, mx s h / 2 ≤ sz x ∧ sz x ≤ mx s h ∧ Below s x := hB
  have h2k : 2 ≤ kids.length := h2k (Nat.succ_pos _)
  have hl := o2.len
  rw [List.length_map] at hl
  have hi : dn ks k < kids.length := by have := znq ks k; omega
  have hc : kids[dn ks k]? = some kids[dn ks k] := List.getElem?_eq_getElem hi
  have hcm := List.getElem_mem hi
  have hh := h2 h
  have ih := zky s n hn h2 h4 k kids[dn ks k] S (o3 _ hcm) (w2 _ hcm) (hB _ hcm).2.2 (hB _ hcm).2.1 (fun h1 => by
   have := (hB _ hcm).1
   cases h with
   | zero => omega
   | succ h => have e : mx s (h + 1) = s.fan := rfl; omega)
  obtain ⟨m1, m2⟩ := Sep.mid (kids := kids) o1 o2 k
  have hbd := o2.bd o1 (i := dn ks k) (by rw [List.length_map]; exact hi)
  rw [List.getElem_map] at hbd
  have hfl := zhc kids ents hi
  have hrem : zcw s n (zaw p ks kids) k S = match zcw s n kids[dn ks k] k S with
   | (_, false, S') => (zaw p ks kids, false, S')
   | (c', true, S') => if sz c' < mx s h / 2 then ((zg5 s n S' p ks (kids.set (dn ks k) c') (dn ks k)).1, true, (zg5 s n S' p ks (kids.set (dn ks k) c') (dn ks k)).2)
    else (zaw p ks (kids.set (dn ks k) c'), true, S') := by
   simp only [zcw, zaw, hc]
  show qk3 s n S (zaw p ks kids) k (zcw s n (zaw p ks kids) k S)
  have hmem : k ∈ keys (ents (zaw p ks kids)) ↔ k ∈ keys (ents kids[dn ks k]) := by
   show k ∈ keys (kids.flatMap ents) ↔ _
   rw [hfl]
   exact qh2 m1 m2
  rw [hrem]
  obtain ⟨⟨c', is, S'⟩, hr⟩ : ∃ r, zcw s n kids[dn ks k] k S = r := ⟨_, rfl⟩
  rw [hr] at ih ⊢
  cases is with
  | false =>
   obtain ⟨-, hS⟩ := ih.no rfl
   exact ⟨⟨fun h => (nomatch h), fun h => ih.is.2 (hmem.1 h)⟩, fun _ => ⟨rfl, hS⟩, fun h => (nomatch h)⟩
  | true =>
   obtain ⟨y1, y2, y3, y4, y5, y6, y7, y8⟩ := ih.yes rfl
   simp only at y1 y2 y3 y4 y5 y6 y7 y8 ⊢
   have hkk := hmem.2 (ih.is.1 rfl)
   have hcs := hB _ hcm
   have hbp : Bd ks (dn ks k) (ents c') := hbd.sub fun q hq => by rw [y2] at hq; exact zsw hq
   have hents : (kids.set (dn ks k) c').flatMap ents = zcy (kids.flatMap ents) k := by
    rw [zz5 _ _ hi, hfl, qja m1 m2, y2]
   have hsep : Sep ks ((kids.set (dn ks k) c').map ents) := by rw [map_set']; exact o2.set o1 _ hbp
   have hord : ∀ x ∈ kids.set (dn ks k) c', Ord x := fun x hx => by
    rcases List.mem_or_eq_of_mem_set hx with hx | rfl
    ·exact o3 x hx
    ·exact y3
   have hwd : ∀ x ∈ kids.set (dn ks k) c', Wd s x := fun x hx => by
    rcases List.mem_or_eq_of_mem_set hx with hx | rfl
    ·exact w2 x hx
    ·exact y4
   have hbl : ∀ x ∈ kids.set (dn ks k) c', Below s x := fun x hx => by
    rcases List.mem_or_eq_of_mem_set hx with hx | rfl
    ·exact (hB x hx).2.2
    ·exact y5
   have hacc : ∀ L, Acc n S (p :: kids.flatMap pgs ++ L) → Acc n S' (p :: (kids.set (dn ks k) c').flatMap pgs ++ L) := fun L hA => by
    have e1 : kids.flatMap pgs = (kids.take (dn ks k)).flatMap pgs ++ (pgs kids[dn ks k] ++ (kids.drop (dn ks k + 1)).flatMap pgs) := by
     conv => lhs; rw [zne kids hi]
     rw [List.flatMap_append, List.flatMap_cons]
    have e2 : (kids.set (dn ks k) c').flatMap pgs = (kids.take (dn ks k)).flatMap pgs ++ (pgs c' ++ (kids.drop (dn ks k + 1)).flatMap pgs) := by
     conv => lhs; rw [zne (kids.set (dn ks k) c') (j := dn ks k) (by rw [List.length_set]; exact hi)]
     rw [List.flatMap_append, List.flatMap_cons, List.getElem_set_self, List.take_set_of_le (by omega), List.drop_set_of_lt (by omega)]
    have key : ∀ Z : List Nat, (p :: ((kids.take (dn ks k)).flatMap pgs ++ (Z ++ (kids.drop (dn ks k + 1)).flatMap pgs)) ++ L).Perm (Z ++ (p :: ((kids.take (dn ks k)).flatMap pgs ++ (kids.drop (dn ks k + 1)).flatMap pgs) ++ L)) := fun Z => by
     rw [List.cons_append, List.cons_append]
     refine List.Perm.trans (.cons _ ?_) List.perm_middle.symm
     simp only [List.append_assoc]
     exact List.perm_append_comm_assoc _ _ _
    rw [e1] at hA
    rw [e2]
    exact (y8 _ (hA.perm (key _))).perm (key _).symm
   by_cases hpoor : sz c' < mx s h / 2
   ·rw [if_pos hpoor]
    obtain ⟨kids', hk'⟩ : ∃ l, kids.set (dn ks k) c' = l := ⟨_, rfl⟩
    have hlen' : kids'.length = kids.length := by rw [← hk', List.length_set]
    have hj : dn ks k - 1 + 1 < kids'.length := by omega
    have hjk : dn ks k - 1 < ks.length := by omega
    have e1 := qjh kids' hj
    have e2 := zne ks hjk
    have hsz : ∀ m (hm : m < kids'.length), m ≠ dn ks k → mx s h / 2 ≤ sz kids'[m] ∧ sz kids'[m] ≤ mx s h := fun m hm hne => by
     have : kids'[m] = kids[m]'(by omega) := by subst hk'; rw [List.getElem_set_ne (Ne.symm hne)]
     rw [this]
     have := hB _ (List.getElem_mem (by omega : m < kids.length))
     exact ⟨this.1, this.2.1⟩
    have hat : kids'[dn ks k]'(by omega) = c' := by subst hk'; rw [List.getElem_set_self]
    rw [hk'] at hents hsep hord hwd hbl hacc ⊢
    have hab : sz kids'[dn ks k - 1] + sz kids'[dn ks k - 1 + 1] ≤ mx s h + mx s h / 2 ∧ mx s h / 2 ≤ sz kids'[dn ks k - 1] + sz kids'[dn ks k - 1 + 1] := by
     rcases Nat.eq_zero_or_pos (dn ks k) with h0 | h0
     ·have a1 : kids'[dn ks k - 1]'(by omega) = c' := by rw [← hat]; congr 1; omega
      have a2 := hsz (dn ks k - 1 + 1) hj (by omega)
      rw [a1]; omega
     ·have a1 : kids'[dn ks k - 1 + 1]'(by omega) = c' := by rw [← hat]; congr 1; omega
      have a2 := hsz (dn ks k - 1) (by omega) (by omega)
      rw [a1]; omega
    have hXY : ∀ x ∈ kids'.take (dn ks k - 1) ++ kids'.drop (dn ks k - 1 + 2), mx s h / 2 ≤ sz x ∧ sz x ≤ mx s h := fun x hx => by
     rcases List.mem_append.1 hx with hx | hx
     ·obtain ⟨m, hm, rfl⟩ := List.getElem_of_mem hx
      rw [List.length_take] at hm
      rw [List.getElem_take]
      exact hsz m (by omega) (by omega)
     ·obtain ⟨m, hm, rfl⟩ := List.getElem_of_mem hx
      rw [List.length_drop] at hm
      rw [List.getElem_drop]
      exact hsz _ (by omega) (by omega)
    have hmend := qmh s n hn h2 S' p (P := ks.take (dn ks k - 1)) (R := ks.drop (dn ks k - 1 + 1)) (q0 := ks[dn ks k - 1]) (X := kids'.take (dn ks k - 1)) (Y := kids'.drop (dn ks k - 1 + 2)) (a := kids'[dn ks k - 1]) (b := kids'[dn ks k - 1 + 1]) (by rw [List.length_take, List.length_take]; omega) (by rw [← e2]; exact o1) (by rw [← e2, ← e1]; exact hsep) (by rw [← e1]; exact hord) (by rw [← e2]; exact w1) (by rw [← e1]; exact hwd) (by rw [← e1]; exact hbl) hXY hab.1 hab.2 (dn ks k) (by rw [List.length_take]; omega)
    rw [← e1, ← e2] at hmend
    refine ⟨⟨fun _ => hkk, fun _ => rfl⟩, fun h => (nomatch h), fun _ => ⟨hmend.page, ?_, hmend.ord, hmend.wd, hmend.below, ?_, ?_, fun L hA => hmend.acc L (hacc L hA)⟩⟩
    ·show _ = zcy (kids.flatMap ents) k
     rw [hmend.ents]; exact hents
    ·show sz (zg5 s n S' p ks kids' (dn ks k)).1 ≤ kids.length
     have := hmend.le; omega
    ·show kids.length ≤ sz (zg5 s n S' p ks kids' (dn ks k)).1 + 1
     have := hmend.ge; omega
   ·rw [if_neg hpoor]
    refine ⟨⟨fun _ => hkk, fun _ => rfl⟩, fun h => (nomatch h), fun _ => ⟨rfl, hents, ⟨o1, hsep, hord⟩, ⟨w1, hwd⟩, fun x hx => ?_, ?_, ?_, hacc⟩⟩
    ·rcases List.mem_or_eq_of_mem_set hx with hx | rfl
     ·exact hB x hx
     ·exact ⟨by omega, by omega, y5⟩
    ·show (kids.set (dn ks k) c').length ≤ kids.length
     rw [List.length_set]; exact Nat.le_refl _
    ·show kids.length ≤ (kids.set (dn ks k) c').length + 1
     rw [List.length_set]; exact Nat.le_succ _
/-! ### how many -/
def lv : {h : Nat} → T h → Nat
 | 0, _ => 1
 | _ + 1, t => (t.2.2.map lv).sum
theorem zk2 {α β : Type} (l : List α) (f : α → List β) : (l.flatMap f).length = (l.map fun x => (f x).length).sum := by
 induction l with
 | nil => rfl
 | cons x l ih => rw [List.flatMap_cons, List.length_append, ih, List.map_cons, List.sum_cons]
theorem zp5 {α : Type} (l : List α) (f g : α → Nat) (c : Nat) (h : ∀ x ∈ l, f x + c ≤ g x) : (l.map f).sum + c * l.length ≤ (l.map g).sum := by
 induction l with
 | nil => simp
 | cons x l ih =>
  have h1 := h x (.head _)
  have h2 := ih fun y hy => h y (.tail _ hy)
  rw [List.map_cons, List.map_cons, List.sum_cons, List.sum_cons, List.length_cons, Nat.mul_succ]
  omega
theorem zom {α : Type} (l : List α) (f : α → Nat) (c : Nat) : (l.map fun x => c * f x).sum = c * (l.map f).sum := by
 induction l with
 | nil => simp
 | cons x l ih => rw [List.map_cons, List.map_cons, List.sum_cons, List.sum_cons, ih, Nat.mul_add]
theorem few (s : Sh) (h4 : 4 ≤ s.fan / 2) : ∀ {h : Nat} (t : T h), Below s t → mx s h / 2 ≤ sz t → 3 * (pgs t).length + 1 ≤ 4 * lv t
 | 0, (_, _), _, _ => Nat.le_refl _
 | h + 1, (p, ks, kids), hB, hz => by
  have hB : ∀ x ∈ kids, mx s h / 2 ≤ sz x ∧ sz x ≤ mx s h ∧ Below s x := hB
  have hz : s.fan / 2 ≤ kids.length := hz
  show 3 * (p :: kids.flatMap pgs).length + 1 ≤ 4 * (kids.map lv).sum
  have := zp5 kids (fun x => 3 * (pgs x).length) (fun x => 4 * lv x) 1 fun x hx => few s h4 x (hB x hx).2.2 (hB x hx).1
  rw [zom, zom, ← zk2] at this
  rw [List.length_cons]
  omega
theorem zz1 (s : Sh) (h4 : 4 ≤ s.fan / 2) : ∀ {h : Nat} (t : T h), Below s t → (1 ≤ h → 2 ≤ sz t) → 3 * (pgs t).length ≤ 4 * lv t + 1
 | 0, (_, _), _, _ => by show 3 * 1 ≤ 4 * 1 + 1; decide
 | h + 1, (p, ks, kids), hB, hz => by
  have hB : ∀ x ∈ kids, mx s h / 2 ≤ sz x ∧ sz x ≤ mx s h ∧ Below s x := hB
  have hz : 2 ≤ kids.length := hz (Nat.succ_pos _)
  show 3 * (p :: kids.flatMap pgs).length ≤ 4 * (kids.map lv).sum + 1
  have := zp5 kids (fun x => 3 * (pgs x).length) (fun x => 4 * lv x) 1 fun x hx => few s h4 x (hB x hx).2.2 (hB x hx).1
  rw [zom, zom, ← zk2] at this
  rw [List.length_cons]
  omega
theorem zpy (s : Sh) : ∀ {h : Nat} (t : T h), Below s t → (h = 0 → s.cap / 2 ≤ sz t) → s.cap / 2 * lv t ≤ (ents t).length
 | 0, (p, es), _, hz => by
  show s.cap / 2 * 1 ≤ es.length
  rw [Nat.mul_one]; exact hz rfl
 | h + 1, (p, ks, kids), hB, _ => by
  have hB : ∀ x ∈ kids, mx s h / 2 ≤ sz x ∧ sz x ≤ mx s h ∧ Below s x := hB
  show s.cap / 2 * (kids.map lv).sum ≤ (kids.flatMap ents).length
  rw [zk2, ← zom]
  have := zp5 kids (fun x => s.cap / 2 * lv x) (fun x => (ents x).length) 0 fun x hx => zpy s x (hB x hx).2.2 (fun h0 => by subst h0; exact (hB x hx).1)
  omega
theorem qqz (s : Sh) (h4 : 4 ≤ s.fan / 2) : ∀ {h : Nat} (t : T h), Below s t → (1 ≤ h → 2 ≤ sz t) → h + 1 ≤ lv t
 | 0, _, _, _ => Nat.le_refl _
 | h + 1, (p, ks, kids), hB, hz => by
  have hB : ∀ x ∈ kids, mx s h / 2 ≤ sz x ∧ sz x ≤ mx s h ∧ Below s x := hB
  have hz : 2 ≤ kids.length := hz (Nat.succ_pos _)
  show h + 1 + 1 ≤ (kids.map lv).sum
  have := zp5 kids (fun _ => 0) lv (h + 1) fun x hx => by
   have := qqz s h4 x (hB x hx).2.2 (fun h1 => by
    have := (hB x hx).1
    cases h with
    | zero => omega
    | succ h => have e : mx s (h + 1) = s.fan := rfl; omega)
   omega
  have h5 : (h + 1) * 2 ≤ (h + 1) * kids.length := Nat.mul_le_mul_left _ hz
  omega
theorem zcb : ∀ {h : Nat} (t : T h), pg t ∈ pgs t
 | 0, (_, _) => .head _
 | _ + 1, (_, _, _) => .head _
/-! ### at the root -/
abbrev Rt := Option (Σ h, T h)
def zbr : Rt → E
 | none => []
 | some ⟨_, t⟩ => ents t
def zm4 : Rt → List Nat
 | none => []
 | some ⟨_, t⟩ => pgs t
def zgt : Rt → Nat
 | none => 0
 | some ⟨_, t⟩ => pg t
structure TOk (s : Sh) {h : Nat} (t : T h) : Prop where
 ord : Ord t
 wd : Wd s t
 below : Below s t
 le : sz t ≤ mx s h
 one : 1 ≤ sz t
 two : 1 ≤ h → 2 ≤ sz t
def qcn (s : Sh) : Rt → Prop
 | none => True
 | some ⟨_, t⟩ => TOk s t
structure zua (s : Sh) : Prop where
 kw : 1 ≤ s.kw
 cap : 2 ≤ s.cap
 fan : 8 ≤ s.fan
theorem zua.h2 {s : Sh} (h : zua s) : ∀ h, 2 ≤ mx s h
 | 0 => h.cap
 | _ + 1 => Nat.le_trans (by decide) h.fan
theorem zua.h4 {s : Sh} (h : zua s) : 4 ≤ s.fan / 2 := by have := h.fan; omega
def qct (s : Sh) (n : Nat) (k v : K) (S : Nat → Bool) : Rt → Rt × (Nat → Bool)
 | none => (some ⟨0, zbk (nw n S) [(k, v)]⟩, us S (nw n S) true)
 | some ⟨h, t⟩ => match znj s n t k v S with
  | (t', none, S') => (some ⟨h, t'⟩, S')
  | (t', some (q, d), S') => (some ⟨h + 1, zaw (nw n S') [q] [t', d]⟩, us S' (nw n S') true)
def zgr : Rt → Nat
 | none => 0
 | some ⟨h, _⟩ => h
theorem qkr {s : Sh} (hs : zua s) (n : Nat) (k v : K) (hk : k.length = s.kw) (hv : v.length = s.vw) (r : Rt) (S : Nat → Bool) (L : List Nat) (hr : qcn s r) (hA : Acc n S (zm4 r ++ L)) (hroom : (zm4 r ++ L).length + zgr r + 3 < n) :
  qcn s (qct s n k v S r).1 ∧ zbr (qct s n k v S r).1 = zfl (zbr r) k v ∧ Acc n (qct s n k v S r).2 (zm4 (qct s n k v S r).1 ++ L) := by
 match r with
 | none =>
  refine ⟨⟨List.pairwise_singleton _ _, fun q hq => by rw [List.mem_singleton.1 hq]; exact ⟨hk, hv⟩, trivial, ?_, Nat.le_refl _, fun h => by omega⟩, rfl, ?_⟩
  ·show 1 ≤ s.cap
   have := hs.cap; omega
  ·have hA : Acc n S L := hA
   have hroom : L.length + 0 + 3 < n := hroom
   exact hA.add (by omega)
 | some ⟨h, t⟩ =>
  have hr : TOk s t := hr
  obtain ⟨hp, hmin⟩ := zqx s n hs.h2 k v hk hv t S hr.ord hr.wd hr.below hr.le
  obtain ⟨N, f1, f2, f3⟩ := zzp s n k v t S (fun _ => trivial)
  have hroom : (pgs t ++ L).length + h + 3 < n := hroom
  have hA : Acc n S (pgs t ++ L) := hA
  have hA2 := f3 (pgs t ++ L) (by omega) hA
  have hput : qct s n k v S (some ⟨h, t⟩) = match znj s n t k v S with
   | (t', none, S') => (some ⟨h, t'⟩, S')
   | (t', some (q, d), S') => (some ⟨h + 1, zaw (nw n S') [q] [t', d]⟩, us S' (nw n S') true) := rfl
  rw [hput]
  obtain ⟨⟨t', g, S'⟩, hq⟩ : ∃ r, znj s n t k v S = r := ⟨_, rfl⟩
  rw [hq] at hp hmin f2 f3 hA2 ⊢
  cases g with
  | none =>
   obtain ⟨a1, a2, a3, a4, a5⟩ := hp.none rfl
   have hm : sz t ≤ sz t' := hmin rfl
   have f2 : (pgs t' ++ []).Perm (N ++ pgs t) := f2
   rw [List.append_nil] at f2
   exact ⟨⟨a2, a3, a5, a4, Nat.le_trans hr.one hm, fun h1 => Nat.le_trans (hr.two h1) hm⟩, a1, hA2.perm (by rw [← List.append_assoc]; exact List.Perm.append_right L f2.symm)⟩
  | some g =>
   obtain ⟨q, d⟩ := g
   obtain ⟨e1, e2, e3, e4, e5, e6, e7, e8, e9, e10, e11, e12, e13, e14⟩ := hp.some q d rfl
   have f2 : (pgs t' ++ pgs d).Perm (N ++ pgs t) := f2
   have hA3 : Acc n S' (N ++ (pgs t ++ L)) := hA2
   refine ⟨⟨⟨List.pairwise_singleton _ _, ⟨e7, fun e he => (List.mem_singleton.1 he) ▸ e8, trivial⟩, fun x hx => ?_⟩, ⟨fun x hx => (List.mem_singleton.1 hx) ▸ e6, fun x hx => ?_⟩, fun x hx => ?_, ?_, by show 1 ≤ 2; decide, fun _ => by show 2 ≤ 2; decide⟩, ?_, ?_⟩
   ·rcases List.mem_cons.1 hx with rfl | hx
    ·exact e2
    ·exact (List.mem_singleton.1 hx) ▸ e3
   ·rcases List.mem_cons.1 hx with rfl | hx
    ·exact e4
    ·exact (List.mem_singleton.1 hx) ▸ e5
   ·rcases List.mem_cons.1 hx with rfl | hx
    ·exact ⟨e9, e10, e13⟩
    ·exact (List.mem_singleton.1 hx) ▸ ⟨e11, e12, e14⟩
   ·show 2 ≤ s.fan
    have := hs.fan; omega
   ·show [t', d].flatMap ents = zfl (ents t) k v
    rw [← e1]; simp
   ·have hA4 := hA3.add (by rw [List.length_append]; omega)
    refine hA4.perm ?_
    show (nw n S' :: (N ++ (pgs t ++ L))).Perm ((nw n S' :: [t', d].flatMap pgs) ++ L)
    refine .cons _ ?_
    simp only [List.flatMap_cons, List.flatMap_nil, List.append_nil]
    rw [← List.append_assoc]
    exact List.Perm.append_right L f2.symm
def zf0 : {h : Nat} → T h → Option Rt
 | 0, t => if t.2.length = 0 then some none else none
 | h + 1, t => match t.2.2 with
  | [x] => some (some ⟨h, x⟩)
  | _ => none
def zwj (s : Sh) (n : Nat) (k : K) (S : Nat → Bool) : Rt → Rt × Bool × (Nat → Bool)
 | none => (none, false, S)
 | some ⟨h, t⟩ => match zcw s n t k S with
  | (_, false, S') => (some ⟨h, t⟩, false, S')
  | (t', true, S') => match zf0 t' with
   | some r => (r, true, us S' (pg t) false)
   | none => (some ⟨h, t'⟩, true, S')
theorem qk8 {s : Sh} (hs : zua s) (n : Nat) (hn : 0 < n) (k : K) (r : Rt) (S : Nat → Bool) (L : List Nat) (hr : qcn s r) (hA : Acc n S (zm4 r ++ L)) :
  qcn s (zwj s n k S r).1 ∧ ((zwj s n k S r).2.1 = true ↔ k ∈ keys (zbr r)) ∧ zbr (zwj s n k S r).1 = zcy (zbr r) k ∧ Acc n (zwj s n k S r).2.2 (zm4 (zwj s n k S r).1 ++ L) := by
 match r with
 | none => exact ⟨trivial, ⟨fun h => (nomatch h), fun h => (nomatch h)⟩, rfl, hA⟩
 | some ⟨h, t⟩ =>
  have hr : TOk s t := hr
  have hrem := zky s n hn hs.h2 (by have := hs.fan; omega) k t S hr.ord hr.wd hr.below hr.le hr.two
  have hA : Acc n S (pgs t ++ L) := hA
  have hdel : zwj s n k S (some ⟨h, t⟩) = match zcw s n t k S with
   | (_, false, S') => (some ⟨h, t⟩, false, S')
   | (t', true, S') => match zf0 t' with
    | some r => (r, true, us S' (pg t) false)
    | none => (some ⟨h, t'⟩, true, S') := rfl
  rw [hdel]
  obtain ⟨⟨t', is, S'⟩, hq⟩ : ∃ r, zcw s n t k S = r := ⟨_, rfl⟩
  rw [hq] at hrem ⊢
  cases is with
  | false =>
   obtain ⟨-, hS⟩ := hrem.no rfl
   have hS : S' = S := hS
   have hno : k ∉ keys (ents t) := fun hk => by have := hrem.is.2 hk; cases this
   refine ⟨hr, hrem.is, ?_, by show Acc n S' (pgs t ++ L); rw [hS]; exact hA⟩
   show ents t = zcy (ents t) k
   unfold zcy
   rw [List.filter_eq_self.2 fun p hp => by
    have : p.1 ≠ k := fun e => hno (List.mem_map.2 ⟨p, hp, e⟩)
    simpa using this]
  | true =>
   obtain ⟨y1, y2, y3, y4, y5, y6, y7, y8⟩ := hrem.yes rfl
   simp only at y1 y2 y3 y4 y5 y6 y7 y8
   have hA2 := y8 L hA
   have his : True ↔ k ∈ keys (ents t) := by have := hrem.is; simpa using this
   cases h with
   | zero =>
    obtain ⟨p', es'⟩ := t'
    by_cases h0 : es'.length = 0
    ·have e0 : es' = [] := List.eq_nil_of_length_eq_zero h0
     subst e0
     have hsh : zf0 (h := 0) (p', []) = some none := rfl
     simp only [hsh]
     have y1 : p' = pg t := y1
     have y2 : ([] : E) = zcy (ents t) k := y2
     refine ⟨trivial, ⟨fun _ => his.1 trivial, fun _ => trivial⟩, y2, ?_⟩
     show Acc n (us S' (pg t) false) L
     rw [← y1]
     exact Acc.del (show Acc n S' (p' :: L) from hA2)
    ·have hsh : zf0 (h := 0) (p', es') = none := if_neg h0
     simp only [hsh]
     exact ⟨⟨y3, y4, y5, Nat.le_trans y6 hr.le, Nat.pos_of_ne_zero h0, fun h => by omega⟩, ⟨fun _ => his.1 trivial, fun _ => trivial⟩, y2, hA2⟩
   | succ h =>
    obtain ⟨p', ks', kids'⟩ := t'
    have h2k := hr.two (Nat.succ_pos _)
    have y7 : sz t ≤ kids'.length + 1 := y7
    have y1 : p' = pg t := y1
    match kids', y7, y2, y3, y4, y5, y6, hA2 with
    | [], y7, _, _, _, _, _, _ => simp at y7; omega
    | [x], y7, y2, y3, y4, y5, y6, hA2 =>
     have hsh : zf0 (h := h + 1) (p', ks', [x]) = some (some ⟨h, x⟩) := rfl
     simp only [hsh]
     have y5 : ∀ z ∈ [x], mx s h / 2 ≤ sz z ∧ sz z ≤ mx s h ∧ Below s z := y5
     obtain ⟨b1, b2, b3⟩ := y5 x (.head _)
     have hh := hs.h2 h
     have y2 : [x].flatMap ents = zcy (ents t) k := y2
     refine ⟨⟨y3.2.2 x (.head _), y4.2 x (.head _), b3, b2, by omega, fun h1 => ?_⟩, ⟨fun _ => his.1 trivial, fun _ => trivial⟩, ?_, ?_⟩
     ·cases h with
      | zero => omega
      | succ h => have e : mx s (h + 1) = s.fan := rfl; have := hs.fan; omega
     ·show ents x = zcy (ents t) k
      rw [← y2]; simp
     ·show Acc n (us S' (pg t) false) (pgs x ++ L)
      rw [← y1]
      refine Acc.del (q := p') ?_
      have : Acc n S' (p' :: ([x].flatMap pgs ++ L)) := hA2
      simpa using this
    | x :: z :: l, y7, y2, y3, y4, y5, y6, hA2 =>
     have hsh : zf0 (h := h + 1) (p', ks', x :: z :: l) = none := rfl
     simp only [hsh]
     refine ⟨⟨y3, y4, y5, Nat.le_trans y6 hr.le, by show 1 ≤ (x :: z :: l).length; simp, fun _ => by show 2 ≤ (x :: z :: l).length; simp⟩, ⟨fun _ => his.1 trivial, fun _ => trivial⟩, y2, hA2⟩
theorem qm0 : ∀ {h : Nat} (t : T h), lv t ≤ (pgs t).length
 | 0, (_, _) => Nat.le_refl _
 | h + 1, (p, ks, kids) => by
  show (kids.map lv).sum ≤ (p :: kids.flatMap pgs).length
  rw [List.length_cons, zk2]
  have := zp5 kids lv (fun x => (pgs x).length) 0 fun x _ => qm0 x
  omega
theorem qfj {s : Sh} (hs : zua s) (r : Rt) (hr : qcn s r) : 3 * (zm4 r).length ≤ 4 * ((zbr r).length / (s.cap / 2)) + 1 + (if (zm4 r).length = 1 then 3 else 0) ∧ zgr r + 1 ≤ (zm4 r).length + 1 ∧ (1 < (zm4 r).length → 2 * (s.cap / 2) ≤ (zbr r).length) := by
 have hc : 0 < s.cap / 2 := by have := hs.cap; omega
 match r with
 | none => exact ⟨by simp [zm4], by simp [zgr, zm4], fun h => by simp [zm4] at h⟩
 | some ⟨h, t⟩ =>
  have hr : TOk s t := hr
  have f1 := zz1 s hs.h4 t hr.below hr.two
  have f2 := qqz s hs.h4 t hr.below hr.two
  have hlv := qm0 t
  show 3 * (pgs t).length ≤ 4 * ((ents t).length / (s.cap / 2)) + 1 + (if (pgs t).length = 1 then 3 else 0) ∧ h + 1 ≤ (pgs t).length + 1 ∧ (1 < (pgs t).length → 2 * (s.cap / 2) ≤ (ents t).length)
  cases h with
  | zero =>
   obtain ⟨p, es⟩ := t
   have : (pgs (h := 0) (p, es)).length = 1 := rfl
   rw [this]
   exact ⟨by simp, by decide, fun h => by omega⟩
  | succ h =>
   have f3 := zpy s t hr.below (fun h => by omega)
   have f4 : lv t ≤ (ents t).length / (s.cap / 2) := (Nat.le_div_iff_mul_le hc).2 (by rw [Nat.mul_comm]; exact f3)
   refine ⟨by omega, by omega, fun _ => ?_⟩
   have : s.cap / 2 * 2 ≤ s.cap / 2 * lv t := Nat.mul_le_mul_left _ (by omega)
   omega
end Go.Eng.Tr
