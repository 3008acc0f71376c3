/- Rows by places; what a tree tells: Get, all from a key on. Own work; no condition. -/
/- Nodes of trees, and their pages. Own work; no condition. -/
/- What the tree's functions do with pages: load, save, page, drop, splits; a tree that lies on pages. Own work; no condition. -/
import Derived.Test.YtkkfifhaobjicaaGreatDoorHb07
namespace Go.Eng.Tr
set_option maxRecDepth 100000
/-! ### rows by places -/
theorem zlp {p : K × K} {r : E} {k : K} (h : kl p.1 k) : lb (keys (p :: r)) k = lb (keys r) k + 1 := by simp [lb, keys, h]
theorem zl5 {p : K × K} {r : E} {k : K} (h : ¬ kl p.1 k) : lb (keys (p :: r)) k = 0 := by simp [lb, keys, h]
theorem zxq {p : K × K} {r : E} (h : Es (p :: r)) : (∀ q ∈ r, kl p.1 q.1) ∧ Es r := by
 obtain ⟨h1, h2⟩ : (∀ a ∈ r.map (·.1), kl p.1 a) ∧ Es r := List.pairwise_cons.1 h
 exact ⟨fun q hq => h1 _ (List.mem_map.2 ⟨q, hq, rfl⟩), h2⟩
theorem zna : ∀ {e : E} {k : K}, Es e → (fd (keys e) k = true → ∃ v, e[lb (keys e) k]? = some (k, v) ∧ zlo e k = some v ∧ (∀ w, zfl e k w = e.set (lb (keys e) k) (k, w)) ∧ zcy e k = e.eraseIdx (lb (keys e) k)) ∧
  (fd (keys e) k = false → zlo e k = none ∧ (∀ w, zfl e k w = ins e (lb (keys e) k) (k, w)) ∧ zcy e k = e)
 | [], k, _ => ⟨fun h => by simp [fd, keys, lb] at h, fun _ => ⟨rfl, fun _ => rfl, rfl⟩⟩
 | p :: r, k, h => by
  obtain ⟨h1, h2⟩ := zxq h
  obtain ⟨i1, i2⟩ := zna (e := r) (k := k) h2
  by_cases hlt : kl p.1 k
  ·have hl := zlp (r := r) hlt
   have hf : fd (keys (p :: r)) k = fd (keys r) k := by
    unfold fd
    rw [hl]
    rfl
   have hne : p.1 ≠ k := zhg hlt
   have hg : zlo (p :: r) k = zlo r k := by
    unfold zlo
    rw [List.find?_cons_of_neg (by simpa using hne)]
   have hp : ∀ w, zfl (p :: r) k w = p :: zfl r k w := fun w => by
    show (if k = p.1 then _ else if kl k p.1 then _ else _) = _
    rw [if_neg hne.symm, if_neg (ze0 hlt)]
   have hd : zcy (p :: r) k = p :: zcy r k := by
    unfold zcy
    rw [List.filter_cons_of_pos (by simpa using hne)]
   rw [hf, hl, hg, hd]
   refine ⟨fun hfd => ?_, fun hfd => ?_⟩
   ·obtain ⟨v, a1, a2, a3, a4⟩ := i1 hfd
    exact ⟨v, a1, a2, fun w => by rw [hp, a3]; rfl, by rw [a4]; rfl⟩
   ·obtain ⟨a1, a2, a3⟩ := i2 hfd
    exact ⟨a1, fun w => by rw [hp, a2]; rfl, by rw [a3]⟩
  ·have hl := zl5 (r := r) hlt
   by_cases he : p.1 = k
   ·have hf : fd (keys (p :: r)) k = true := by
     rw [ziq, hl]
     show some p.1 = some k
     rw [he]
    rw [hf, hl]
    refine ⟨fun _ => ⟨p.2, ?_, ?_, fun w => ?_, ?_⟩, fun h => (nomatch h)⟩
    ·show some p = some (k, p.2)
     rw [← he]
    ·unfold zlo
     rw [List.find?_cons_of_pos (by simpa using he)]
     rfl
    ·show (if k = p.1 then _ else _) = _
     rw [if_pos he.symm]; rfl
    ·show zcy (p :: r) k = r
     unfold zcy
     rw [List.filter_cons_of_neg (by simpa using he), List.filter_eq_self.2 fun q hq => by
      have := zhg (h1 q hq)
      rw [he] at this
      simpa using this.symm]
   ·have hf : fd (keys (p :: r)) k = false := by
     cases hfd : fd (keys (p :: r)) k with
     | false => rfl
     | true =>
      have := ziq.1 hfd
      rw [hl] at this
      exact absurd (Option.some.inj this) he
    have hgt : kl k p.1 := qnb hlt he
    rw [hf, hl]
    refine ⟨fun h => (nomatch h), fun _ => ⟨?_, fun w => ?_, ?_⟩⟩
    ·unfold zlo
     rw [List.find?_eq_none.2 fun q hq => by
      rcases List.mem_cons.1 hq with rfl | hq
      ·simpa using he
      ·simpa using (zhg (zb5 hgt (h1 q hq))).symm]
     rfl
    ·show (if k = p.1 then _ else if kl k p.1 then _ else _) = _
     rw [if_neg (Ne.symm he), if_pos hgt]; rfl
    ·unfold zcy
     refine List.filter_eq_self.2 fun q hq => ?_
     rcases List.mem_cons.1 hq with rfl | hq
     ·simpa using he
     ·simpa using (zhg (zb5 hgt (h1 q hq))).symm
theorem qh9 {e : E} {k v : K} (h : Es e) : zfl e k v = ins (zcy e k) (lb (keys (zcy e k)) k) (k, v) := by
 have h' : Es (zcy e k) := zxr h
 have hno : fd (keys (zcy e k)) k = false := by
  cases hf : fd (keys (zcy e k)) k with
  | false => rfl
  | true =>
   have := (zzq h').1 hf
   obtain ⟨p, hp, he⟩ := List.mem_map.1 this
   have := (List.mem_filter.1 hp).2
   simp [he] at this
 rw [← ((zna h').2 hno).2.1]
 clear hno h'
 induction e with
 | nil => rfl
 | cons p r ih =>
  obtain ⟨h1, h2⟩ := zxq h
  by_cases he : k = p.1
  ·have hd : zcy (p :: r) k = r := by
    unfold zcy
    rw [List.filter_cons_of_neg (by simpa using he.symm), List.filter_eq_self.2 fun q hq => by
     have := zhg (h1 q hq)
     rw [← he] at this
     simpa using this.symm]
   have hg : zfl r k v = (k, v) :: r := qf4 (fun q hq => by rw [he]; exact h1 q hq)
   rw [hd, hg]
   show (if k = p.1 then (k, v) :: r else _) = (k, v) :: r
   rw [if_pos he]
  ·have hd : zcy (p :: r) k = p :: zcy r k := by
    unfold zcy
    rw [List.filter_cons_of_pos (by simpa using Ne.symm he)]
   rw [hd]
   show (if k = p.1 then _ else if kl k p.1 then (k, v) :: p :: r else p :: zfl r k v) = (if k = p.1 then _ else if kl k p.1 then (k, v) :: p :: zcy r k else p :: zfl (zcy r k) k v)
   rw [if_neg he, if_neg he, ih h2]
   by_cases hlt : kl k p.1
   ·rw [if_pos hlt, if_pos hlt]
    have : zcy r k = r := by
     unfold zcy
     exact List.filter_eq_self.2 fun q hq => by simpa using (zhg (zb5 hlt (h1 q hq))).symm
    rw [this]
   ·rw [if_neg hlt, if_neg hlt]
/-! ### Get -/
def zih : {h : Nat} → T h → K → E
 | 0, t, _ => t.2
 | _ + 1, t, k => match t.2.2[dn t.2.1 k]? with
  | none => []
  | some c => zih c k
theorem ztn : ∀ {h : Nat} (t : T h) (k : K), Ord t → Es (zih t k) ∧ zlo (zih t k) k = zlo (ents t) k
 | 0, (_, _), _, hO => ⟨hO, rfl⟩
 | h + 1, (p, ks, kids), k, hO => by
  obtain ⟨o1, o2, o3⟩ : Ks ks ∧ Sep ks (kids.map ents) ∧ ∀ x ∈ kids, Ord x := hO
  have hl := o2.len
  rw [List.length_map] at hl
  have hi : dn ks k < kids.length := by have := znq ks k; omega
  have hc : kids[dn ks k]? = some kids[dn ks k] := List.getElem?_eq_getElem hi
  obtain ⟨i1, i2⟩ := ztn kids[dn ks k] k (o3 _ (List.getElem_mem hi))
  obtain ⟨m1, m2⟩ := Sep.mid (kids := kids) o1 o2 k
  have he : zih (zaw p ks kids) k = zih kids[dn ks k] k := by simp only [zih, zaw, hc]
  show Es (zih (zaw p ks kids) k) ∧ zlo (zih (zaw p ks kids) k) k = zlo (kids.flatMap ents) k
  rw [he, zhc kids ents hi, qg9 m1 m2]
  exact ⟨i1, i2⟩
/-! ### all from a key on -/
def qko : {h : Nat} → T h → K → E
 | 0, t, f => t.2.drop (lb (keys t.2) f)
 | _ + 1, t, f => (t.2.2.drop (dn t.2.1 f)).flatMap fun x => qko x f
def geE (e : E) (f : K) : E := e.filter fun p => decide (¬ kl p.1 f)
theorem qef : ∀ {e : E} {f : K}, Es e → e.drop (lb (keys e) f) = geE e f
 | [], _, _ => rfl
 | p :: r, f, h => by
  obtain ⟨h1, h2⟩ := zxq h
  unfold geE
  by_cases hlt : kl p.1 f
  ·rw [zlp hlt, List.drop_succ_cons, qef h2, List.filter_cons_of_neg (by simpa using hlt)]
   rfl
  ·rw [zl5 hlt, List.drop_zero]
   symm
   refine List.filter_eq_self.2 fun q hq => ?_
   rcases List.mem_cons.1 hq with rfl | hq
   ·simpa using hlt
   ·simpa using fun h => hlt (zb5 (h1 q hq) h)
theorem qc1 : ∀ {h : Nat} (t : T h) (f : K), Ord t → qko t f = geE (ents t) f
 | 0, (_, es), f, hO => qef (e := es) hO
 | h + 1, (p, ks, kids), f, hO => by
  obtain ⟨o1, o2, o3⟩ : Ks ks ∧ Sep ks (kids.map ents) ∧ ∀ x ∈ kids, Ord x := hO
  have hl := o2.len
  rw [List.length_map] at hl
  have hi : dn ks f < kids.length := by have := znq ks f; omega
  obtain ⟨m1, m2⟩ := Sep.mid (kids := kids) o1 o2 f
  show (kids.drop (dn ks f)).flatMap (fun x => qko x f) = geE (kids.flatMap ents) f
  rw [zhc kids ents hi, List.drop_eq_getElem_cons hi, List.flatMap_cons, qc1 kids[dn ks f] f (o3 _ (List.getElem_mem hi))]
  have f1 : ((kids.take (dn ks f)).flatMap ents).filter (fun p => decide (¬ kl p.1 f)) = [] := List.filter_eq_nil_iff.2 fun q hq => by simpa using m1 q hq
  have f2 : ((kids.drop (dn ks f + 1)).flatMap ents).filter (fun p => decide (¬ kl p.1 f)) = (kids.drop (dn ks f + 1)).flatMap ents := List.filter_eq_self.2 fun q hq => by simpa using ze0 (m2 q hq)
  unfold geE
  rw [List.filter_append, List.filter_append, f1, f2, List.nil_append]
  congr 1
  have : ∀ l : List (T h), (∀ x ∈ l, Ord x) → (∀ q ∈ l.flatMap ents, kl f q.1) → l.flatMap (fun x => qko x f) = l.flatMap ents := fun l hO' hg => by
   induction l with
   | nil => rfl
   | cons x l ih =>
    rw [List.flatMap_cons, List.flatMap_cons, ih (fun y hy => hO' y (.tail _ hy)) fun q hq => hg q (by rw [List.flatMap_cons]; exact List.mem_append_right _ hq), qc1 x f (hO' x (.head _))]
    unfold geE
    rw [List.filter_eq_self.2 fun q hq => by simpa using ze0 (hg q (by rw [List.flatMap_cons]; exact List.mem_append_left _ hq))]
  exact this _ (fun x hx => o3 x (List.mem_of_mem_drop hx)) m2
theorem qmm (e : E) (k : K) (also : Bool) : (geE e k).find? (fun p => decide (p.1 ≠ k) || also) = zia e k also := by
 unfold geE zia
 rw [List.find?_filter]
 congr 1
 funext p
 rcases zll p.1 k with h | h | h
 ·simp [h, ze0 h, zhg h]
 ·have h1 : ¬ kl p.1 k := by rw [h]; exact zdu _
  have h2 : ¬ kl k p.1 := by rw [h]; exact zdu _
  simp [h, zdu k]
 ·simp [h, ze0 h, (zhg h).symm]
end Go.Eng.Tr
namespace Go.Eng.Tr
open Go.Proofs.YtkkfifhaobjicaaGreatDoor
set_option maxRecDepth 100000
structure Nd where
 leaf : Bool
 keys : List K
 vals : List K
 kids : List Nat
structure zfs (s : Sh) (n : Nd) : Prop where
 sorted : Ks n.keys
 wide : ∀ k ∈ n.keys, k.length = s.kw
 leaf : n.leaf = true → n.kids = [] ∧ n.keys.length = n.vals.length ∧ (∀ v ∈ n.vals, v.length = s.vw) ∧ n.keys.length ≤ s.cap
 inner : n.leaf = false → (∀ k ∈ n.kids, 1 ≤ k ∧ k < 1024) ∧ n.vals = [] ∧ n.kids.length = n.keys.length + 1 ∧ 1 ≤ n.keys.length ∧ n.kids.length ≤ s.fan
def qcq (n : Nd) : Bys := if n.leaf then (n.keys.zip n.vals).flatMap fun p => p.1 ++ p.2 else n.keys.flatMap id
def znr (n : Nd) : Bys := beN 1 (if n.leaf then 1 else 2) ++ (beN 1 0 ++ (beN 2 n.keys.length ++ (n.kids.flatMap (beN 2) ++ qcq n)))
def zcg (n : Nd) : Bys := znr n ++ List.replicate (512 - (znr n).length) 0
theorem zjc {α : Type} (l : List α) (f : α → Bys) (c : Nat) (h : ∀ x ∈ l, (f x).length = c) : (l.flatMap f).length = l.length * c := by
 induction l with
 | nil => simp
 | cons x l ih => rw [List.flatMap_cons, List.length_append, h x (.head _), ih fun y hy => h y (.tail _ hy), List.length_cons, Nat.succ_mul]; omega
theorem zzn {s : Sh} {n : Nd} (h : zfs s n) : (znr n).length = if n.leaf then 4 + n.keys.length * (s.kw + s.vw) else 4 + n.kids.length * 2 + n.keys.length * s.kw := by
 unfold znr qcq
 simp only [List.length_append, zao]
 rw [zjc n.kids (beN 2) 2 fun x _ => zao 2 x]
 cases hl : n.leaf with
 | true =>
  obtain ⟨h1, h2, h3, h4⟩ := h.leaf hl
  rw [if_pos rfl, if_pos rfl, h1, zjc _ _ (s.kw + s.vw) fun p hp => by
   obtain ⟨q1, q2⟩ := List.of_mem_zip hp
   rw [List.length_append, h.wide _ q1, h3 _ q2], List.length_zip, ← h2, Nat.min_self]
  simp; omega
 | false =>
  rw [if_neg Bool.false_ne_true, if_neg Bool.false_ne_true, zjc n.keys id s.kw fun k hk => h.wide k hk]
  omega
theorem zyv {s : Sh} (hs : 1 ≤ s.kw) {n : Nd} (h : zfs s n) : (znr n).length ≤ 512 := by
 rw [zzn h]
 cases hl : n.leaf with
 | true =>
  obtain ⟨-, -, -, h4⟩ := h.leaf hl
  rw [if_pos rfl]
  have : n.keys.length * (s.kw + s.vw) ≤ s.cap * (s.kw + s.vw) := Nat.mul_le_mul_right _ h4
  have h5 : s.cap * (s.kw + s.vw) ≤ 508 := Nat.div_mul_le_self 508 (s.kw + s.vw)
  omega
 | false =>
  obtain ⟨-, -, h3, h4, h5⟩ := h.inner hl
  rw [if_neg Bool.false_ne_true]
  have h6 : s.fan * (s.kw + 2) ≤ 508 + s.kw := Nat.div_mul_le_self (508 + s.kw) (s.kw + 2)
  have h7 : n.kids.length * (s.kw + 2) ≤ s.fan * (s.kw + 2) := Nat.mul_le_mul_right _ h5
  have h8 : n.kids.length * (s.kw + 2) = n.kids.length * s.kw + n.kids.length * 2 := Nat.mul_add _ _ _
  have h9 : n.kids.length * s.kw = n.keys.length * s.kw + s.kw := by rw [h3, Nat.succ_mul]
  omega
theorem zu0 {s : Sh} (hs : 1 ≤ s.kw) {n : Nd} (h : zfs s n) : (zcg n).length = 512 := by
 have := zyv hs h
 unfold zcg
 rw [List.length_append, List.length_replicate]
 omega
/-! ### a page is read -/
def kidsF : Nat → Opn → List Nat × Opn
 | 0, st => ([], st)
 | m + 1, st => if st.2 then ([], st) else ((opN 2 st).1 :: (kidsF m (opN 2 st).2).1, (kidsF m (opN 2 st).2).2)
def qco (s : Sh) (leaf : Bool) (st : Opn) : K × K × Opn := ((opT s.kw st).1, if leaf then (opT s.vw (opT s.kw st).2).1 else [], if leaf then (opT s.vw (opT s.kw st).2).2 else (opT s.kw st).2)
def zeo (s : Sh) (leaf : Bool) : Nat → Opn → List K × List K × Opn
 | 0, st => ([], [], st)
 | m + 1, st => if st.2 then ([], [], st) else
  ((qco s leaf st).1 :: (zeo s leaf m (qco s leaf st).2.2).1, if leaf then (qco s leaf st).2.1 :: (zeo s leaf m (qco s leaf st).2.2).2.1 else [], (zeo s leaf m (qco s leaf st).2.2).2.2)
def hdF (b : Bys) : Bool × Nat × Opn := (decide ((opN 1 (b, false)).1 = 1), (opN 2 (opN 1 (opN 1 (b, false)).2).2).1, (opN 2 (opN 1 (opN 1 (b, false)).2).2).2)
def zmx (s : Sh) (b : Bys) : Nd × Opn :=
 let kf := if (hdF b).1 then ([], (hdF b).2.2) else kidsF ((hdF b).2.1 + 1) (hdF b).2.2
 (⟨(hdF b).1, (zeo s (hdF b).1 (hdF b).2.1 kf.2).1, (zeo s (hdF b).1 (hdF b).2.1 kf.2).2.1, kf.1⟩, (zeo s (hdF b).1 (hdF b).2.1 kf.2).2.2)
theorem qe8 : ∀ (l : List Nat) (r : Bys), (∀ k ∈ l, k < 65536) → kidsF l.length (l.flatMap (beN 2) ++ r, false) = (l, (r, false))
 | [], _, _ => rfl
 | k :: l, r, h => by
  have e : opN 2 ((k :: l).flatMap (beN 2) ++ r, false) = (k, (l.flatMap (beN 2) ++ r, false)) := by
   rw [List.flatMap_cons, List.append_assoc]
   exact zh9 (h k (.head _)) _
  rw [List.length_cons, kidsF, if_neg Bool.false_ne_true, e, qe8 l r fun x hx => h x (.tail _ hx)]
theorem zwc (s : Sh) : ∀ (l : E) (r : Bys), (∀ p ∈ l, p.1.length = s.kw ∧ p.2.length = s.vw) → zeo s true l.length (l.flatMap (fun p => p.1 ++ p.2) ++ r, false) = (l.map (·.1), l.map (·.2), (r, false))
 | [], _, _ => rfl
 | p :: l, r, h => by
  obtain ⟨h1, h2⟩ := h p (.head _)
  have e : qco s true ((p :: l).flatMap (fun p => p.1 ++ p.2) ++ r, false) = (p.1, p.2, (l.flatMap (fun p => p.1 ++ p.2) ++ r, false)) := by
   unfold qco
   rw [List.flatMap_cons, List.append_assoc, List.append_assoc, ← h1, zp0, ← h2, zp0]
   rfl
  rw [List.length_cons, zeo, if_neg Bool.false_ne_true, e, zwc s l r fun x hx => h x (.tail _ hx)]
  rfl
theorem zrj (s : Sh) : ∀ (l : List K) (r : Bys), (∀ k ∈ l, k.length = s.kw) → zeo s false l.length (l.flatMap id ++ r, false) = (l, [], (r, false))
 | [], _, _ => rfl
 | k :: l, r, h => by
  have h1 := h k (.head _)
  have e : qco s false ((k :: l).flatMap id ++ r, false) = (k, [], (l.flatMap id ++ r, false)) := by
   unfold qco
   rw [List.flatMap_cons, List.append_assoc, ← h1]
   have := zp0 k (l.flatMap id ++ r)
   simp only [id_eq]
   rw [this]
   rfl
  rw [List.length_cons, zeo, if_neg Bool.false_ne_true, e, zrj s l r fun x hx => h x (.tail _ hx)]
  rfl
theorem qg1 {a b : List K} (h : a.length = b.length) : (a.zip b).map (·.1) = a ∧ (a.zip b).map (·.2) = b := by
 refine ⟨?_, ?_⟩
 ·have := List.map_fst_zip (l₁ := a) (l₂ := b) (by omega)
  exact this
 ·have := List.map_snd_zip (l₁ := a) (l₂ := b) (by omega)
  exact this
theorem qic {s : Sh} (hs : 1 ≤ s.kw) {n : Nd} (h : zfs s n) : zmx s (zcg n) = (n, (List.replicate (512 - (znr n).length) 0, false)) := by
 have hle := zyv hs h
 have hlen := zzn h
 generalize hz : List.replicate (512 - (znr n).length) (0 : UInt8) = z
 have hkl : n.keys.length < 65536 := by
  cases hl : n.leaf with
  | true =>
   rw [hl, if_pos rfl] at hlen
   have : n.keys.length * 1 ≤ n.keys.length * (s.kw + s.vw) := Nat.mul_le_mul_left _ (by omega)
   omega
  | false =>
   rw [hl, if_neg Bool.false_ne_true] at hlen
   have : n.keys.length * 1 ≤ n.keys.length * s.kw := Nat.mul_le_mul_left _ hs
   omega
 have e1 : opN 1 (zcg n, false) = (if n.leaf then 1 else 2, (beN 1 0 ++ (beN 2 n.keys.length ++ (n.kids.flatMap (beN 2) ++ (qcq n ++ z))), false)) := by
  unfold zcg
  rw [hz]
  unfold znr
  simp only [List.append_assoc]
  exact zh9 (by split <;> decide) _
 have e2 : opN 1 (beN 1 0 ++ (beN 2 n.keys.length ++ (n.kids.flatMap (beN 2) ++ (qcq n ++ z))), false) = (0, (beN 2 n.keys.length ++ (n.kids.flatMap (beN 2) ++ (qcq n ++ z)), false)) := zh9 (by decide) _
 have e3 : opN 2 (beN 2 n.keys.length ++ (n.kids.flatMap (beN 2) ++ (qcq n ++ z)), false) = (n.keys.length, (n.kids.flatMap (beN 2) ++ (qcq n ++ z), false)) := zh9 (by omega) _
 have eh : hdF (zcg n) = (n.leaf, n.keys.length, (n.kids.flatMap (beN 2) ++ (qcq n ++ z), false)) := by
  unfold hdF
  rw [e1]
  simp only
  rw [e2]
  simp only
  rw [e3]
  cases n.leaf <;> rfl
 unfold zmx
 rw [eh]
 obtain ⟨leaf, keys, vals, kids⟩ := n
 simp only at *
 cases leaf with
 | true =>
  obtain ⟨h1, h2, h3, h4⟩ := h.leaf rfl
  simp only at h1 h2 h3 h4
  subst h1
  obtain ⟨z1, z2⟩ := qg1 h2
  have := zwc s (keys.zip vals) z fun p hp => by
   obtain ⟨q1, q2⟩ := List.of_mem_zip hp
   exact ⟨h.wide _ q1, h3 _ q2⟩
  rw [List.length_zip, ← h2, Nat.min_self, z1, z2] at this
  simp only [if_true, List.flatMap_nil, List.nil_append, qcq]
  rw [this]
 | false =>
  obtain ⟨h1, h2, h3, h4, h5⟩ := h.inner rfl
  simp only at h1 h2 h3 h4 h5
  subst h2
  have k1 := qe8 kids (keys.flatMap id ++ z) fun k hk => by have := (h1 k hk).2; omega
  rw [h3] at k1
  have k2 := zrj s keys z fun k hk => h.wide k hk
  simp only [Bool.false_eq_true, if_false, qcq]
  rw [k1]
  simp only
  rw [k2]
noncomputable def zp8 (s : Sh) (b : Bys) : Option Nd := by
 classical exact if (zmx s b).2.2 = false ∧ zfs s (zmx s b).1 ∧ zcg (zmx s b).1 = b then some (zmx s b).1 else none
theorem qeh {s : Sh} (hs : 1 ≤ s.kw) {n : Nd} (h : zfs s n) : zp8 s (zcg n) = some n := by
 unfold zp8
 rw [qic hs h, if_pos ⟨rfl, h, rfl⟩]
theorem qkw {s : Sh} {b : Bys} {n : Nd} (h : zp8 s b = some n) : zfs s n ∧ zcg n = b := by
 unfold zp8 at h
 split at h
 ·rename_i hc
  cases h
  exact hc.2
 ·cases h
end Go.Eng.Tr
namespace Go.Eng.Tr
open Go.Proofs.YtkkfifhaobjicaaGreatDoor
set_option maxRecDepth 100000
structure Sg where
 W : Nat → Bys
 S : Nat → Bool
def wr (W : Nat → Bys) (i : Nat) (b : Bys) : Nat → Bys := fun j => if j = i then b else W j
noncomputable section
open Classical
def zen (s : Sh) (N : Nat) (g : Sg) (at_ : Int) : Except Nat Nd := if 1 ≤ at_ ∧ at_ < N then (match zp8 s (g.W at_.toNat) with | some n => .ok n | none => .error 12) else .error 12
def zb7 (s : Sh) (N : Nat) (g : Sg) (at_ : Nat) (n : Nd) : Except Nat Sg := if zfs s n then (if 1 ≤ at_ ∧ at_ < N then .ok { g with W := wr g.W at_ (zcg n) } else .error 2) else .error 12
def zic (N : Nat) (g : Sg) : Except Nat (Nat × Sg) := if ∃ i, i < N ∧ g.S i = false then .ok (nw N g.S, ⟨wr g.W (nw N g.S) (List.replicate 512 0), us g.S (nw N g.S) true⟩) else .error 5
def zfy (N : Nat) (g : Sg) (at_ : Nat) : Except Nat Sg := if 1 ≤ at_ ∧ at_ < N ∧ g.S at_ = true then .ok { g with S := us g.S at_ false } else .error 2
def lNd (keys vals : List K) : Nd := ⟨true, keys, vals, []⟩
def iNd (keys : List K) (kids : List Nat) : Nd := ⟨false, keys, [], kids⟩
def qaq (s : Sh) (n : Nd) : Bool := if n.leaf then decide (n.keys.length ≤ s.cap) else decide (n.kids.length ≤ s.fan)
def zcd (s : Sh) (N : Nat) (g : Sg) (at_ : Nat) (n : Nd) : Except Nat ((K × Nat) × Sg) :=
 if qaq s n then do
  let g1 ← zb7 s N g at_ n
  return (([], 0), g1)
 else do
  let (q, g1) ← zic N g
  if n.leaf then do
   let g2 ← zb7 s N g1 q (lNd (n.keys.drop (n.keys.length / 2)) (n.vals.drop (n.keys.length / 2)))
   let g3 ← zb7 s N g2 at_ (lNd (n.keys.take (n.keys.length / 2)) (n.vals.take (n.keys.length / 2)))
   return (((n.keys.drop (n.keys.length / 2)).headD [], q), g3)
  else do
   let g2 ← zb7 s N g1 q (iNd (n.keys.drop (n.kids.length / 2)) (n.kids.drop (n.kids.length / 2)))
   let g3 ← zb7 s N g2 at_ (iNd (n.keys.take (n.kids.length / 2 - 1)) (n.kids.take (n.kids.length / 2)))
   return ((n.keys.getD (n.kids.length / 2 - 1) [], q), g3)
end
/-! ### a tree that lies on pages -/
def zal : {h : Nat} → T h → Nd
 | 0, t => lNd (t.2.map (·.1)) (t.2.map (·.2))
 | _ + 1, t => iNd t.2.1 (t.2.2.map pg)
def Rep (W : Nat → Bys) : {h : Nat} → T h → Prop
 | 0, t => W t.1 = zcg (zal (h := 0) t)
 | h + 1, t => W t.1 = zcg (zal (h := h + 1) t) ∧ ∀ x ∈ t.2.2, Rep W x
theorem Rep.at_ {W : Nat → Bys} : ∀ {h : Nat} {t : T h}, Rep W t → W (pg t) = zcg (zal t)
 | 0, _, h => h
 | _ + 1, _, h => h.1
theorem Rep.frame {W W' : Nat → Bys} : ∀ {h : Nat} {t : T h}, Rep W t → (∀ x ∈ pgs t, W' x = W x) → Rep W' t
 | 0, t, hr, hf => (hf t.1 (.head _)).trans hr
 | h + 1, t, hr, hf => ⟨(hf t.1 (.head _)).trans hr.1, fun x hx => (hr.2 x hx).frame fun y hy => hf y (.tail _ (List.mem_flatMap.2 ⟨x, hx, hy⟩))⟩
theorem zce {s : Sh} : ∀ {h : Nat} (t : T h), Ord t → Wd s t → sz t ≤ mx s h → (1 ≤ h → 2 ≤ sz t) → (∀ x ∈ pgs t, 1 ≤ x ∧ x < 1024) → zfs s (zal t)
 | 0, (p, es), hO, hW, hm, _, _ => by
  refine ⟨hO, fun k hk => ?_, fun _ => ⟨rfl, by simp [zal, lNd], fun v hv => ?_, ?_⟩, fun h => (nomatch h)⟩
  ·obtain ⟨q, hq, rfl⟩ := List.mem_map.1 hk
   exact (hW q hq).1
  ·obtain ⟨q, hq, rfl⟩ := List.mem_map.1 hv
   exact (hW q hq).2
  ·show (es.map (·.1)).length ≤ s.cap
   rw [List.length_map]; exact hm
 | h + 1, (p, ks, kids), hO, hW, hm, h2, hp => by
  have hl := hO.2.1.len
  have h2 : 2 ≤ kids.length := h2 (Nat.succ_pos _)
  have hl : (kids.map ents).length = ks.length + 1 := hl
  rw [List.length_map] at hl
  refine ⟨hO.1, hW.1, fun h => (nomatch h), fun _ => ⟨fun k hk => ?_, rfl, ?_, ?_, ?_⟩⟩
  ·obtain ⟨x, hx, rfl⟩ := List.mem_map.1 hk
   exact hp _ (.tail _ (List.mem_flatMap.2 ⟨x, hx, zcb x⟩))
  ·show (kids.map pg).length = ks.length + 1
   rw [List.length_map]; exact hl
  ·show 1 ≤ ks.length; omega
  ·show (kids.map pg).length ≤ s.fan
   rw [List.length_map]; exact hm
theorem zec {s : Sh} (hs : 1 ≤ s.kw) {N : Nat} {g : Sg} {h : Nat} {t : T h} (hr : Rep g.W t) (hm : zfs s (zal t)) (h1 : 1 ≤ pg t) (h2 : pg t < N) : zen s N g (pg t : Nat) = .ok (zal t) := by
 unfold zen
 rw [if_pos ⟨by omega, by omega⟩, Int.toNat_natCast, hr.at_, qeh hs hm]
theorem zcn {s : Sh} {N : Nat} {g : Sg} {at_ : Nat} {n : Nd} (hm : zfs s n) (h1 : 1 ≤ at_) (h2 : at_ < N) : zb7 s N g at_ n = .ok { g with W := wr g.W at_ (zcg n) } := by
 unfold zb7
 rw [if_pos hm, if_pos ⟨h1, h2⟩]
theorem zfz (W : Nat → Bys) (i : Nat) (b : Bys) : wr W i b i = b := if_pos rfl
theorem zbe (W : Nat → Bys) {i j : Nat} (b : Bys) (h : j ≠ i) : wr W i b j = W j := if_neg h
structure zk9 (N : Nat) (g : Sg) {h : Nat} (L : List Nat) (r : Res h) (o : Except Nat ((K × Nat) × Sg)) (g' : Sg) : Prop where
 none : r.2.1 = none → o = .ok (([], 0), g')
 some : ∀ q d, r.2.1 = some (q, d) → o = .ok ((q, pg d), g') ∧ Rep g'.W d ∧ 1 ≤ pg d
 rep : Rep g'.W r.1
 S : g'.S = r.2.2
 frame : ∀ x, x < N → x ∉ L → g.S x = true → g'.W x = g.W x
theorem zjz {s : Sh} (hs : zua s) {N : Nat} (hN : N ≤ 1024) : ∀ {h : Nat} (t : T h) (g : Sg), Ord t → Wd s t → Below s t → sz t ≤ mx s h + mx s h / 2 → (1 ≤ h → 2 ≤ sz t) → (∀ x ∈ pgs t, 1 ≤ x ∧ x < N ∧ g.S x = true) → (pgs t).Nodup → (∃ i, i < N ∧ g.S i = false) → g.S 0 = true → (match h, t with | 0, _ => True | _ + 1, t => ∀ x ∈ t.2.2, Rep g.W x) →
  ∃ g', zk9 N g (pgs t) (zcc s N g.S t) (zcd s N g (pg t) (zal t)) g'
 | 0, (p, es), g, hO, hW, hB, hm, _, hp, hnd, hfree, h0, _ => by
  obtain ⟨hp1, hp2, hp3⟩ := hp p (.head _)
  change ∃ g', zk9 N g [p] (zcc s N g.S (zbk p es)) (zcd s N g p (lNd (List.map (fun q : K × K => q.1) es) (List.map (fun q : K × K => q.2) es))) g'
  rw [zlz]
  have hlen : (es.map (·.1)).length = es.length := List.length_map _
  have mk : ∀ l : E, Es l → (∀ q ∈ l, q ∈ es) → l.length ≤ s.cap → zfs s (lNd (l.map (·.1)) (l.map (·.2))) := fun l h1 h2 h3 =>
   zce (h := 0) (zbk p l) h1 (fun q hq => hW q (h2 q hq)) h3 (fun h => by omega) (fun x hx => by
    have e : x = p := List.mem_singleton.1 hx
    rw [e]; exact ⟨hp1, by omega⟩)
  by_cases hc : es.length ≤ s.cap
  ·rw [if_pos hc]
   have hf : qaq s (lNd (es.map (·.1)) (es.map (·.2))) = true := by
    unfold qaq lNd
    rw [if_pos rfl, hlen]
    exact decide_eq_true hc
   refine ⟨⟨wr g.W p (zcg (lNd (es.map (·.1)) (es.map (·.2)))), g.S⟩, ⟨fun _ => ?_, fun q d h => (nomatch h), ?_, rfl, fun x _ hx _ => ?_⟩⟩
   ·unfold zcd
    rw [if_pos hf, zcn (mk es hO (fun q hq => hq) hc) hp1 hp2]
    rfl
   ·exact zfz _ _ _
   ·exact zbe _ _ (fun e => hx (by rw [e]; exact List.mem_cons_self))
  ·rw [if_neg hc]
   obtain ⟨f1, f2, f3⟩ := zks hfree
   have hm : es.length ≤ s.cap + s.cap / 2 := hm
   have hcap := hs.cap
   obtain ⟨l1, l2⟩ := ztg (a := es.length) (m := s.cap) (by omega)
   obtain ⟨l3, l4⟩ := zsm hm (by omega)
   have hq1 : 1 ≤ nw N g.S := by
    rcases Nat.eq_zero_or_pos (nw N g.S) with h | h
    ·rw [h, h0] at f1; cases f1
    ·exact h
   have hqp : nw N g.S ≠ p := fun e => by rw [e, hp3] at f1; cases f1
   have hf : qaq s (lNd (es.map (·.1)) (es.map (·.2))) = false := by
    unfold qaq lNd
    rw [if_pos rfl, hlen]
    exact decide_eq_false hc
   have m1 := mk (es.drop (es.length / 2)) (Es.drop (e := es) hO _) (fun q hq => List.mem_of_mem_drop hq) (by rw [List.length_drop]; omega)
   have m2 := mk (es.take (es.length / 2)) (Es.take (e := es) hO _) (fun q hq => List.mem_of_mem_take hq) (by rw [List.length_take]; omega)
   refine ⟨⟨wr (wr (wr g.W (nw N g.S) (List.replicate 512 0)) (nw N g.S) (zcg (zal (zbk p (es.drop (es.length / 2)))))) p (zcg (zal (zbk p (es.take (es.length / 2))))), us g.S (nw N g.S) true⟩, ⟨fun h => (nomatch h), fun q d hqd => ?_, ?_, rfl, fun x _ hx hxS => ?_⟩⟩
   ·obtain ⟨rfl, rfl⟩ := Prod.mk.inj (Option.some.inj hqd)
    refine ⟨?_, ?_, hq1⟩
    ·unfold zcd
     rw [if_neg (by rw [hf]; decide)]
     unfold zic
     rw [if_pos hfree]
     show (do
      let g2 ← zb7 s N _ (nw N g.S) (lNd ((List.map (fun q : K × K => q.1) es).drop ((List.map (fun q : K × K => q.1) es).length / 2)) ((List.map (fun q : K × K => q.2) es).drop ((List.map (fun q : K × K => q.1) es).length / 2)))
      let g3 ← zb7 s N g2 p (lNd ((List.map (fun q : K × K => q.1) es).take ((List.map (fun q : K × K => q.1) es).length / 2)) ((List.map (fun q : K × K => q.2) es).take ((List.map (fun q : K × K => q.1) es).length / 2)))
      return ((((List.map (fun q : K × K => q.1) es).drop ((List.map (fun q : K × K => q.1) es).length / 2)).headD [], nw N g.S), g3)) = _
     rw [hlen, ← List.map_drop, ← List.map_drop, ← List.map_take, ← List.map_take, zcn m1 hq1 f2]
     show (do
      let g3 ← zb7 s N _ p _
      return (_, g3)) = _
     rw [zcn m2 hp1 hp2]
     rfl
    ·show wr _ _ _ (nw N g.S) = _
     rw [zbe _ _ hqp, zfz]
     rfl
   ·exact zfz _ _ _
   ·show wr _ _ _ x = g.W x
    have hxq : x ≠ nw N g.S := fun e => by rw [e, f1] at hxS; cases hxS
    rw [zbe _ _ (fun e => hx (by rw [e]; exact List.mem_cons_self)), zbe _ _ hxq, zbe _ _ hxq]
 | h + 1, (p, ks, kids), g, hO, hW, hB, hm, h2k, hp, hnd, hfree, h0, hrep => by
  obtain ⟨hp1, hp2, hp3⟩ := hp p (.head _)
  have hrep : ∀ x ∈ kids, Rep g.W x := hrep
  have h2k : 2 ≤ kids.length := h2k (Nat.succ_pos _)
  have hm : kids.length ≤ s.fan + s.fan / 2 := hm
  obtain ⟨nd1, nd2⟩ := List.nodup_cons.1 (show (p :: kids.flatMap pgs).Nodup from hnd)
  have hkp : ∀ x ∈ kids, ∀ y ∈ pgs x, y ≠ p ∧ 1 ≤ y ∧ y < N ∧ g.S y = true := fun x hx y hy => by
   have hm := List.mem_flatMap.2 ⟨x, hx, hy⟩
   exact ⟨fun e => nd1 (e ▸ hm), hp y (.tail _ hm)⟩
  have hl := hO.2.1.len
  have hl : (kids.map ents).length = ks.length + 1 := hl
  rw [List.length_map] at hl
  change ∃ g', zk9 N g (pgs (zaw p ks kids)) (zcc s N g.S (zaw p ks kids)) (zcd s N g p (iNd ks (kids.map pg))) g'
  rw [zlr]
  have hlen : (kids.map pg).length = kids.length := List.length_map _
  by_cases hc : kids.length ≤ s.fan
  ·rw [if_pos hc]
   have hf : qaq s (iNd ks (kids.map pg)) = true := by
    unfold qaq iNd
    rw [if_neg Bool.false_ne_true, hlen]
    exact decide_eq_true hc
   have hmay : zfs s (zal (zaw p ks kids)) := zce (zaw p ks kids) hO hW hc (fun _ => h2k) fun x hx => ⟨(hp x hx).1, by have := (hp x hx).2.1; omega⟩
   refine ⟨⟨wr g.W p (zcg (iNd ks (kids.map pg))), g.S⟩, ⟨fun _ => ?_, fun q d h => (nomatch h), ⟨zfz _ _ _, fun x hx => (hrep x hx).frame fun y hy => zbe _ _ (hkp x hx y hy).1⟩, rfl, fun x _ hx _ => ?_⟩⟩
   ·unfold zcd
    rw [if_pos hf, zcn (show zfs s (iNd ks (kids.map pg)) from hmay) hp1 hp2]
    rfl
   ·exact zbe _ _ (fun e => hx (by rw [e]; exact List.mem_cons_self))
  ·rw [if_neg hc]
   obtain ⟨f1, f2, f3⟩ := zks hfree
   have hfan := hs.fan
   obtain ⟨l1, l2⟩ := ztg (a := kids.length) (m := s.fan) (by omega)
   obtain ⟨l3, l4⟩ := zsm hm (by omega)
   have hq1 : 1 ≤ nw N g.S := by
    rcases Nat.eq_zero_or_pos (nw N g.S) with h | h
    ·rw [h, h0] at f1; cases f1
    ·exact h
   have hqn : ∀ y, g.S y = true → y ≠ nw N g.S := fun y hy e => by rw [e, f1] at hy; cases hy
   have hf : qaq s (iNd ks (kids.map pg)) = false := by
    unfold qaq iNd
    rw [if_neg Bool.false_ne_true, hlen]
    exact decide_eq_false hc
   obtain ⟨c1, c2⟩ := hO.2.1.cut hO.1 (m := kids.length / 2) (by omega) (by show kids.length / 2 < (kids.map ents).length; rw [List.length_map]; omega)
   have c1 : Sep (ks.take (kids.length / 2 - 1)) ((kids.map ents).take (kids.length / 2)) := c1
   have c2 : Sep (ks.drop (kids.length / 2)) ((kids.map ents).drop (kids.length / 2)) := c2
   rw [← List.map_take] at c1
   rw [← List.map_drop] at c2
   have m1 : zfs s (zal (zaw p (ks.drop (kids.length / 2)) (kids.drop (kids.length / 2)))) := zce (zaw p _ _) ⟨List.Pairwise.sublist (List.drop_sublist _ _) hO.1, c2, fun x hx => hO.2.2 x (List.mem_of_mem_drop hx)⟩ ⟨fun k hk => hW.1 k (List.mem_of_mem_drop hk), fun x hx => hW.2 x (List.mem_of_mem_drop hx)⟩ (by show (kids.drop (kids.length / 2)).length ≤ s.fan; rw [List.length_drop]; omega) (fun _ => by show 2 ≤ (kids.drop (kids.length / 2)).length; rw [List.length_drop]; omega) fun x hx => by
    rcases List.mem_cons.1 hx with rfl | hx
    ·exact ⟨hp1, by omega⟩
    ·obtain ⟨z, hz, hx⟩ := List.mem_flatMap.1 hx
     have := hkp z (List.mem_of_mem_drop hz) x hx
     exact ⟨this.2.1, by omega⟩
   have m2 : zfs s (zal (zaw p (ks.take (kids.length / 2 - 1)) (kids.take (kids.length / 2)))) := zce (zaw p _ _) ⟨List.Pairwise.sublist (List.take_sublist _ _) hO.1, c1, fun x hx => hO.2.2 x (List.mem_of_mem_take hx)⟩ ⟨fun k hk => hW.1 k (List.mem_of_mem_take hk), fun x hx => hW.2 x (List.mem_of_mem_take hx)⟩ (by show (kids.take (kids.length / 2)).length ≤ s.fan; rw [List.length_take]; omega) (fun _ => by show 2 ≤ (kids.take (kids.length / 2)).length; rw [List.length_take]; omega) fun x hx => by
    rcases List.mem_cons.1 hx with rfl | hx
    ·exact ⟨hp1, by omega⟩
    ·obtain ⟨z, hz, hx⟩ := List.mem_flatMap.1 hx
     have := hkp z (List.mem_of_mem_take hz) x hx
     exact ⟨this.2.1, by omega⟩
   have hkid : ∀ x ∈ kids, ∀ b0 b1 b2 : Bys, Rep (wr (wr (wr g.W (nw N g.S) b0) (nw N g.S) b1) p b2) x := fun x hx b0 b1 b2 => (hrep x hx).frame fun y hy => by
    have := hkp x hx y hy
    rw [zbe _ _ this.1, zbe _ _ (hqn y this.2.2.2), zbe _ _ (hqn y this.2.2.2)]
   refine ⟨⟨wr (wr (wr g.W (nw N g.S) (List.replicate 512 0)) (nw N g.S) (zcg (iNd (ks.drop (kids.length / 2)) ((kids.drop (kids.length / 2)).map pg)))) p (zcg (iNd (ks.take (kids.length / 2 - 1)) ((kids.take (kids.length / 2)).map pg))), us g.S (nw N g.S) true⟩, ⟨fun h => (nomatch h), fun q d hqd => ?_, ⟨zfz _ _ _, fun x hx => hkid x (List.mem_of_mem_take hx) _ _ _⟩, rfl, fun x _ hx hxS => ?_⟩⟩
   ·obtain ⟨rfl, rfl⟩ := Prod.mk.inj (Option.some.inj hqd)
    refine ⟨?_, ⟨?_, fun x hx => hkid x (List.mem_of_mem_drop hx) _ _ _⟩, hq1⟩
    ·unfold zcd
     rw [if_neg (by rw [hf]; decide)]
     unfold zic
     rw [if_pos hfree]
     show (do
      let g2 ← zb7 s N _ (nw N g.S) (iNd (ks.drop ((kids.map pg).length / 2)) ((kids.map pg).drop ((kids.map pg).length / 2)))
      let g3 ← zb7 s N g2 p (iNd (ks.take ((kids.map pg).length / 2 - 1)) ((kids.map pg).take ((kids.map pg).length / 2)))
      return ((ks.getD ((kids.map pg).length / 2 - 1) [], nw N g.S), g3)) = _
     rw [hlen, ← List.map_drop, ← List.map_take, zcn (show zfs s (iNd (ks.drop (kids.length / 2)) ((kids.drop (kids.length / 2)).map pg)) from m1) hq1 f2]
     show (do
      let g3 ← zb7 s N _ p _
      return (_, g3)) = _
     rw [zcn (show zfs s (iNd (ks.take (kids.length / 2 - 1)) ((kids.take (kids.length / 2)).map pg)) from m2) hp1 hp2]
     rfl
    ·show wr _ _ _ (nw N g.S) = _
     rw [zbe _ _ (hqn p hp3).symm, zfz]
     rfl
   ·show wr _ _ _ x = g.W x
    have hxq : x ≠ nw N g.S := hqn x hxS
    rw [zbe _ _ (fun e => hx (by rw [e]; exact List.mem_cons_self)), zbe _ _ hxq, zbe _ _ hxq]
end Go.Eng.Tr
