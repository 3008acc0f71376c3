/- Trees of pages: Put. Own work; no condition. -/
/- Trees of pages: the pages that a Put takes; Put at the root. Own work; no condition. -/
/- Trees of pages: two nodes side by side are joined, or shared out anew. Own work; no condition. -/
/- Trees of pages: a child that is not full enough is mended; Delete. Own work; no condition. -/
/- Trees of pages: Delete. Own work; no condition. -/
/- Trees of pages: how many pages; at the root. Own work; no condition. -/
/- Rows by places; what a tree tells: Get, all from a key on. Own work; no condition. -/
/- Nodes of trees, and their pages. Own work; no condition. -/
import Derived.Test.YtkkfifhaobjicaaGreatDoorHc01
namespace Go.Eng.Tr
set_option maxRecDepth 100000
/-! ### parts that are others -/
theorem Sep.dropm {ks : List K} {es : List E} : ∀ (m : Nat), Sep ks es → m < es.length → Sep (ks.drop m) (es.drop m)
 | 0, h, _ => h
 | m + 1, h, hm => by
  match ks, es, h with
  | [], [_], _ => simp at hm
  | k :: ks, e :: es, h => exact Sep.dropm m h.2.2 (by simpa using hm)
theorem Sep.takem {ks : List K} {es : List E} : ∀ (m : Nat), Sep ks es → m < es.length → Sep (ks.take m) (es.take (m + 1))
 | 0, h, hm => by
  match ks, es, h with
  | [], [_], _ => trivial
  | k :: ks, e :: es, h => trivial
 | m + 1, h, hm => by
  match ks, es, h with
  | [], [_], _ => simp at hm
  | k :: ks, e :: es, h => exact ⟨h.1, fun e' he => h.2.1 e' (bX he), Sep.takem m h.2.2 (by simpa using hm)⟩
theorem Sep.join {q : K} {ks2 : List K} {es2 : List E} (h2 : Sep ks2 es2) (hge : ∀ e ∈ es2, zgn e q) : ∀ {ks1 : List K} {es1 : List E}, Sep ks1 es1 → (∀ k ∈ ks1, ∀ e ∈ es2, zgn e k) → (∀ e ∈ es1, ze6 e q) → Sep (ks1 ++ q :: ks2) (es1 ++ es2)
 | [], [e], _, _, hl => ⟨hl e (.head _), hge, h2⟩
 | k :: ks1, e :: es1, h, hc, hl => ⟨h.1, fun e' he => by
   rcases aS.1 he with he | he
   ·exact h.2.1 e' he
   ·exact hc k (.head _) e' he, Sep.join h2 hge h.2.2 (fun k' hk => hc k' (.tail _ hk)) fun e' he => hl e' (.tail _ he)⟩
def Bd (ks : List K) (i : Nat) (e : E) : Prop := (∀ j (hj : j < ks.length), i ≤ j → ze6 e ks[j]) ∧ ∀ j (hj : j < ks.length), j < i → zgn e ks[j]
theorem Sep.bd {ks : List K} {es : List E} (hk : Ks ks) (h : Sep ks es) {i : Nat} (hi : i < es.length) : Bd ks i es[i] := by
 obtain ⟨p1, p2⟩ := h.part hk
 exact ⟨fun j hj hij => p1 j i hj hi hij, fun j hj hij => p2 j i hj hi hij⟩
theorem Sep.set {ks : List K} {es : List E} (hk : Ks ks) (h : Sep ks es) {i : Nat} (e' : E) (hb : Bd ks i e') : Sep ks (es.set i e') := by
 obtain ⟨p1, p2⟩ := h.part hk
 refine Sep.of (by rw [bO]; exact h.len) (fun j hj hj2 => ?_) fun j m hj hm hjm => ?_
 ·rw [gE]
  split
  ·rename_i e; subst e; exact hb.1 _ hj (aX _)
  ·exact p1 j j hj (by rw [bO] at hj2; exact hj2) (aX _)
 ·rw [gE]
  split
  ·rename_i e; subst e; exact hb.2 _ hj hjm
  ·exact p2 j m hj (by rw [bO] at hm; exact hm) hjm
def ins {α : Type} (l : List α) (i : Nat) (x : α) : List α := l.take i ++ x :: l.drop i
theorem zf3 {α : Type} (l : List α) (i : Nat) (x : α) : (ins l i x).length = l.length + 1 := by
 unfold ins
 rw [aA, aZ, aO, aU]
 omega
theorem zf4 {α : Type} {l : List α} {i : Nat} {x y : α} (h : y ∈ ins l i x) : y = x ∨ y ∈ l := by
 unfold ins at h
 rcases aS.1 h with h | h
 ·exact .inr (bX h)
 ·rcases aJ.1 h with h | h
  ·exact .inl h
  ·exact .inr (bZ h)
theorem Sep.ins {ks : List K} {es : List E} (hk : Ks ks) (h : Sep ks es) {i : Nat} (hi : i < es.length) {e1 e2 : E} {q : K} (b1 : Bd ks i e1) (b2 : Bd ks i e2) (l1 : ze6 e1 q) (l2 : zgn e2 q)
  (q1 : ∀ j (hj : j < ks.length), j < i → kl ks[j] q) (q2 : ∀ j (hj : j < ks.length), i ≤ j → kl q ks[j]) : Ks (Tr.ins ks i q) ∧ Sep (Tr.ins ks i q) (Tr.ins (es.set i e1) (i + 1) e2) := by
 obtain ⟨p1, p2⟩ := h.part hk
 have hl := h.len
 have hli : i ≤ ks.length := oQ
 constructor
 ·unfold Tr.ins Ks
  rw [bP]
  refine ⟨dB (eZ _ _) hk, bL.2 ⟨fun y hy => ?_, dB (eX _ _) hk⟩, fun x hx y hy => ?_⟩
  ·obtain ⟨j, hj, rfl⟩ := bI hy
   rw [aU] at hj
   rw [dH]
   exact q2 _ oQ oQ
  ·obtain ⟨j, hj, rfl⟩ := bI hx
   rw [aO] at hj
   rw [dO]
   rcases aJ.1 hy with rfl | hy
   ·exact q1 j oQ oQ
   ·obtain ⟨m, hm, rfl⟩ := bI hy
    rw [aU] at hm
    rw [dH]
    exact cM.1 hk _ _ oQ oQ oQ
 ·have s1 := (h.set hk e1 b1).takem i (by rw [bO]; exact hi)
  have s2 := (h.set hk e2 b2).dropm i (by rw [bO]; exact hi)
  have e2' : (es.set i e2).drop i = e2 :: es.drop (i + 1) := by
   rw [bY (by rw [bO]; exact hi), dC, dJ oQ]
  have e1' : (es.set i e1).drop (i + 1) = es.drop (i + 1) := dJ oQ
  rw [e2'] at s2
  unfold Tr.ins
  rw [e1']
  refine Sep.join s2 (fun e he => ?_) s1 (fun k hk' e he => ?_) fun e he => ?_
  ·rcases aJ.1 he with rfl | he
   ·exact l2
   ·obtain ⟨j, hj, rfl⟩ := bI he
    rw [aU] at hj
    rw [dH]
    intro x hx hxq
    exact p2 (i + j) (i + 1 + j) oQ oQ oQ x hx (zb1 hxq (q2 _ oQ oQ))
  ·obtain ⟨j, hj, rfl⟩ := bI hk'
   rw [aO] at hj
   rw [dO]
   rcases aJ.1 he with rfl | he
   ·exact b2.2 j oQ oQ
   ·obtain ⟨m, hm, rfl⟩ := bI he
    rw [aU] at hm
    rw [dH]
    exact p2 j _ oQ oQ oQ
  ·obtain ⟨j, hj, rfl⟩ := bI he
   rw [aO, bO] at hj
   rw [dO, gE]
   split
   ·exact l1
   ·intro x hx
    exact zb1 (p1 j j oQ oQ (aX _) x hx) (q1 j oQ oQ)
/-! ### Put -/
def zn2 (s : Sh) (n : Nat) : {h : Nat} → T h → K → K → (Nat → Bool) → Res h
 | 0, t, k, v, S => zb8 s n S (zbj t.1 (zfp t.2 k v))
 | _ + 1, t, k, v, S => match t.2.2[dn t.2.1 k]? with
  | none => (t, none, S)
  | some c => match zn2 s n c k v S with
   | (c', none, S') => (zat t.1 t.2.1 (t.2.2.set (dn t.2.1 k) c'), none, S')
   | (c', some (q, d), S') => zb8 s n S' (zat t.1 (ins t.2.1 (dn t.2.1 k) q) (ins (t.2.2.set (dn t.2.1 k) c') (dn t.2.1 k + 1) d))
theorem zjs : ∀ {e : E} {k v : K} {q : K × K}, q ∈ zfp e k v → q = (k, v) ∨ q ∈ e
 | [], _, _, _, h => by rcases aJ.1 h with h | h; exact .inl h; cases h
 | p :: r, k, v, q, h => by
  unfold zfp at h
  split at h
  ·rcases aJ.1 h with h | h
   ·exact .inl h
   ·exact .inr (.tail _ h)
  ·split at h
   ·rcases aJ.1 h with h | h
    ·exact .inl h
    ·exact .inr h
   ·rcases aJ.1 h with rfl | h
    ·exact .inr (.head _)
    ·rcases zjs h with h | h
     ·exact .inl h
     ·exact .inr (.tail _ h)
theorem zh8 : ∀ (e : E) (k v : K), e.length ≤ (zfp e k v).length ∧ (zfp e k v).length ≤ e.length + 1
 | [], _, _ => ⟨aV _, aX _⟩
 | p :: r, k, v => by
  have := zh8 r k v
  unfold zfp
  split
  ·exact ⟨aX _, Nat.le_succ _⟩
  ·split
   ·simp
   ·simp; omega
theorem zua : ∀ {e : E} {k v : K}, Es e → Es (zfp e k v)
 | [], _, _, _ => dZ _ _
 | p :: r, k, v, h => by
  obtain ⟨h1, h2⟩ : (∀ a ∈ r.map (·.1), kl p.1 a) ∧ Es r := bL.1 h
  unfold zfp
  split
  ·rename_i e; subst e
   exact bL.2 ⟨h1, h2⟩
  ·split
   ·rename_i hne hlt
    refine bL.2 ⟨fun a ha => ?_, h⟩
    rcases aJ.1 ha with rfl | ha
    ·exact hlt
    ·exact zb1 hlt (h1 a ha)
   ·rename_i hne hlt
    refine bL.2 ⟨fun a ha => ?_, zua h2⟩
    obtain ⟨q, hq, rfl⟩ := aT.1 ha
    rcases zjs hq with rfl | hq
    ·exact qo8 hlt hne
    ·exact h1 _ (aT.2 ⟨q, hq, rfl⟩)
theorem zhy (s : Sh) (h2 : ∀ h, 2 ≤ mx s h) : ∀ {h : Nat} (t : T h), Below s t → 1 ≤ sz t → ents t ≠ []
 | 0, (p, es), _, hz, he => by
  have he : es = [] := he
  subst he
  exact absurd (show 1 ≤ 0 from hz) dQ
 | h + 1, (p, ks, kids), hB, hz, he => by
  have hB : ∀ x ∈ kids, mx s h / 2 ≤ sz x ∧ sz x ≤ mx s h ∧ Below s x := hB
  have he : kids.flatMap ents = [] := he
  match kids, hz with
  | x :: r, _ =>
   obtain ⟨b1, b2, b3⟩ := hB x (.head _)
   have := h2 h
   rw [aW, List.append_eq_nil_iff] at he
   exact zhy s h2 x b3 oQ he.1
theorem qom {ks : List K} (hk : Ks ks) {k v : K} {e : E} (hb : Bd ks (dn ks k) e) : Bd ks (dn ks k) (zfp e k v) := by
 refine ⟨fun j hj hij p hp => ?_, fun j hj hij p hp => ?_⟩
 ·rcases zjs hp with rfl | hp
  ·exact qov hk hj hij
  ·exact hb.1 j hj hij p hp
 ·rcases zjs hp with rfl | hp
  ·exact qow hj hij
  ·exact hb.2 j hj hij p hp
theorem Bd.sub {ks : List K} {i : Nat} {e e' : E} (h : Bd ks i e) (hs : ∀ p ∈ e', p ∈ e) : Bd ks i e' :=
 ⟨fun j hj hij p hp => h.1 j hj hij p (hs p hp), fun j hj hij p hp => h.2 j hj hij p (hs p hp)⟩
theorem qa3 {α : Type} (l : List α) (f : α → E) {i : Nat} (hi : i < l.length) (x : α) : (l.set i x).flatMap f = (l.take i).flatMap f ++ (f x ++ (l.drop (i + 1)).flatMap f) := by
 rw [zhr (l.set i x) f (i := i) (by rw [bO]; exact hi), dC, eL oQ, dJ oQ]
theorem zvt {α : Type} (l : List α) (f : α → E) {i : Nat} (hi : i < l.length) (x y : α) : (ins (l.set i x) (i + 1) y).flatMap f = (l.take i).flatMap f ++ ((f x ++ f y) ++ (l.drop (i + 1)).flatMap f) := by
 unfold ins
 rw [cT (by rw [bO]; exact hi), dC, eL oQ, dJ oQ, bB, bB, aW]
 simp
theorem map_set' {α β : Type} (l : List α) (f : α → β) (i : Nat) (x : α) : (l.set i x).map f = (l.map f).set i (f x) := gX
theorem zo7 {α β : Type} (l : List α) (f : α → β) (i : Nat) (x : α) : (ins l i x).map f = ins (l.map f) i (f x) := by
 unfold ins; simp
theorem zsc (s : Sh) (n : Nat) (h2 : ∀ h, 2 ≤ mx s h) (k v : K) (hk : k.length = s.kw) (hv : v.length = s.vw) : ∀ {h : Nat} (t : T h) (S : Nat → Bool), Ord t → Wd s t → Below s t → sz t ≤ mx s h → zkb s t (zfp (ents t) k v) (zn2 s n t k v S) ∧ ((zn2 s n t k v S).2.1 = none → sz t ≤ sz (zn2 s n t k v S).1)
 | 0, (p, es), S, hO, hW, hB, hm => by
  have hc := h2 0
  have hc : 2 ≤ s.cap := hc
  have hm : es.length ≤ s.cap := hm
  have hl := zh8 es k v
  have := zoe s n S (zbj p (zfp es k v)) (zua (e := es) hO) (fun q hq => by
   rcases zjs hq with rfl | hq
   ·exact ⟨hk, hv⟩
   ·exact hW q hq) trivial (by show (zfp es k v).length ≤ s.cap + s.cap / 2; omega) hc
  refine ⟨⟨this.page, this.none, this.some⟩, fun hn => ?_⟩
  show es.length ≤ sz (zb8 s n S (zbj p (zfp es k v))).1
  have hn : (zb8 s n S (zbj p (zfp es k v))).2.1 = none := hn
  rw [zm4] at hn ⊢
  split at hn
  ·rename_i hcc
   rw [if_pos hcc]
   exact hl.1
  ·cases hn
 | h + 1, (p, ks, kids), S, hO, hW, hB, hm => by
  obtain ⟨o1, o2, o3⟩ : Ks ks ∧ Sep ks (kids.map ents) ∧ ∀ x ∈ kids, Ord x := hO
  obtain ⟨w1, w2⟩ : (∀ k ∈ ks, k.length = s.kw) ∧ ∀ x ∈ kids, Wd s x := hW
  have hB : ∀ x ∈ kids, mx s h / 2 ≤ sz x ∧ sz x ≤ mx s h ∧ Below s x := hB
  have hm : kids.length ≤ s.fan := hm
  have hf : 2 ≤ s.fan := h2 (h + 1)
  have hl := o2.len
  rw [aG] at hl
  have hi : dn ks k < kids.length := by have := zn0 ks k; omega
  have hc : kids[dn ks k]? = some kids[dn ks k] := aB hi
  have hcm := aR hi
  obtain ⟨ih, ihm⟩ := zsc s n h2 k v hk hv kids[dn ks k] S (o3 _ hcm) (w2 _ hcm) (hB _ hcm).2.2 (hB _ hcm).2.1
  obtain ⟨m1, m2⟩ := Sep.mid (kids := kids) o1 o2 k
  have hbd := o2.bd o1 (i := dn ks k) (by rw [aG]; exact hi)
  rw [cW] at hbd
  have hbp := qom o1 (v := v) hbd
  have he : zfp (kids.flatMap ents) k v = (kids.take (dn ks k)).flatMap ents ++ (zfp (ents kids[dn ks k]) k v ++ (kids.drop (dn ks k + 1)).flatMap ents) := by
   rw [zhr kids ents hi, qjt m1 m2]
  have hput : zn2 s n (h := h + 1) (p, ks, kids) k v S = match zn2 s n kids[dn ks k] k v S with
   | (c', none, S') => (zat p ks (kids.set (dn ks k) c'), none, S')
   | (c', some (q, d), S') => zb8 s n S' (zat p (ins ks (dn ks k) q) (ins (kids.set (dn ks k) c') (dn ks k + 1) d)) := by
   show (match kids[dn ks k]? with | none => _ | some c => _) = _
   rw [hc]
  show zkb s (zat p ks kids) (zfp (kids.flatMap ents) k v) _ ∧ _
  rw [hput, he]
  obtain ⟨⟨c', g, S'⟩, hr⟩ : ∃ r, zn2 s n kids[dn ks k] k v S = r := ⟨_, rfl⟩
  rw [hr] at ih ihm ⊢
  cases g with
  | none =>
   obtain ⟨n1, n2, n3, n4, n5⟩ := ih.none rfl
   have hmn : sz kids[dn ks k] ≤ sz c' := ihm rfl
   refine ⟨⟨rfl, fun _ => ⟨?_, ⟨o1, ?_, fun x hx => ?_⟩, ⟨w1, fun x hx => ?_⟩, ?_, fun x hx => ?_⟩, fun k d hkd => (nomatch hkd)⟩, fun _ => ?_⟩
   ·show (kids.set (dn ks k) c').flatMap ents = _
    rw [qa3 _ _ hi, n1]
   ·show Sep ks ((kids.set (dn ks k) c').map ents)
    rw [map_set', n1]
    exact o2.set o1 _ hbp
   ·rcases cC hx with hx | rfl
    ·exact o3 x hx
    ·exact n2
   ·rcases cC hx with hx | rfl
    ·exact w2 x hx
    ·exact n3
   ·show (kids.set (dn ks k) c').length ≤ s.fan
    rw [bO]; exact hm
   ·rcases cC hx with hx | rfl
    ·exact hB x hx
    ·have := (hB _ hcm).1
     exact ⟨oQ, n4, n5⟩
   ·show kids.length ≤ (kids.set (dn ks k) c').length
    rw [bO]; exact aX _
  | some g =>
   obtain ⟨q, d⟩ := g
   obtain ⟨n1, n2, n3, n4, n5, n6, n7, n8, n9, n10, n11, n12, n13, n14⟩ := ih.some q d rfl
   have hh := h2 h
   have ne1 := zhy s h2 c' n13 (by show 1 ≤ sz c'; have : mx s h / 2 ≤ sz c' := n9; omega)
   have ne2 := zhy s h2 d n14 oQ
   obtain ⟨x1, hx1⟩ := cU _ ne1
   obtain ⟨x2, hx2⟩ := cU _ ne2
   have b1 : Bd ks (dn ks k) (ents c') := hbp.sub fun p hp => by rw [← n1]; exact aK _ hp
   have b2 : Bd ks (dn ks k) (ents d) := hbp.sub fun p hp => by rw [← n1]; exact aP _ hp
   obtain ⟨i1, i2⟩ := o2.ins o1 (i := dn ks k) (by rw [aG]; exact hi) b1 b2 n7 n8 (fun j hj hij => zdg (b1.2 j hj hij x1 hx1) (n7 x1 hx1)) fun j hj hij => zdg (n8 x2 hx2) (b2.1 j hj hij x2 hx2)
   have hst : zkb s (zat p (ins ks (dn ks k) q) (ins (kids.set (dn ks k) c') (dn ks k + 1) d)) ((ins (kids.set (dn ks k) c') (dn ks k + 1) d).flatMap ents) (zb8 s n S' (zat p (ins ks (dn ks k) q) (ins (kids.set (dn ks k) c') (dn ks k + 1) d))) := by
    refine zoe s n S' (zat p (ins ks (dn ks k) q) (ins (kids.set (dn ks k) c') (dn ks k + 1) d)) ⟨i1, ?_, fun x hx => ?_⟩ ⟨fun x hx => ?_, fun x hx => ?_⟩ (fun x hx => ?_) ?_ hf
    ·show Sep _ ((ins (kids.set (dn ks k) c') (dn ks k + 1) d).map ents)
     rw [zo7, map_set']
     exact i2
    ·rcases zf4 hx with rfl | hx
     ·exact n3
     ·rcases cC hx with hx | rfl
      ·exact o3 x hx
      ·exact n2
    ·rcases zf4 hx with rfl | hx
     ·exact n6
     ·exact w1 x hx
    ·rcases zf4 hx with rfl | hx
     ·exact n5
     ·rcases cC hx with hx | rfl
      ·exact w2 x hx
      ·exact n4
    ·rcases zf4 hx with rfl | hx
     ·exact ⟨n11, n12, n14⟩
     ·rcases cC hx with hx | rfl
      ·exact hB x hx
      ·exact ⟨n9, n10, n13⟩
    ·show (ins (kids.set (dn ks k) c') (dn ks k + 1) d).length ≤ s.fan + s.fan / 2
     rw [zf3, bO]; omega
   rw [zvt _ _ hi, n1] at hst
   refine ⟨⟨hst.page, hst.none, hst.some⟩, fun hn => ?_⟩
   show kids.length ≤ sz (zb8 s n S' (zat p (ins ks (dn ks k) q) (ins (kids.set (dn ks k) c') (dn ks k + 1) d))).1
   have hn : (zb8 s n S' (zat p (ins ks (dn ks k) q) (ins (kids.set (dn ks k) c') (dn ks k + 1) d))).2.1 = none := hn
   rw [zm5] at hn ⊢
   split at hn
   ·rename_i hcc
    rw [if_pos hcc]
    show kids.length ≤ (ins (kids.set (dn ks k) c') (dn ks k + 1) d).length
    rw [zf3, bO]; omega
   ·cases hn
structure Acc (n : Nat) (S : Nat → Bool) (L : List Nat) : Prop where
 nodup : L.Nodup
 is : ∀ i, i < n → (S i = true ↔ i = 0 ∨ i ∈ L)
 low : ∀ x ∈ L, 1 ≤ x ∧ x < n
theorem Acc.perm {n : Nat} {S : Nat → Bool} {L L' : List Nat} (h : Acc n S L) (p : L.Perm L') : Acc n S L' :=
 ⟨p.nodup_iff.1 h.nodup, fun i hi => (h.is i hi).trans ⟨fun h => h.imp id p.mem_iff.1, fun h => h.imp id p.mem_iff.2⟩, fun x hx => h.low x (p.mem_iff.2 hx)⟩
theorem zli : ∀ {l L : List Nat}, l.Nodup → (∀ x ∈ l, x ∈ L) → l.length ≤ L.length
 | [], _, _, _ => aV _
 | a :: l, L, hn, h => by
  obtain ⟨n1, n2⟩ := cS.1 hn
  have ha := h a (.head _)
  have := zli (l := l) (L := L.erase a) n2 fun x hx => (List.mem_erase_of_ne (fun e : x = a => n1 (by rw [← e]; exact hx))).2 (h x (.tail _ hx))
  rw [List.length_erase_of_mem ha] at this
  have := fN ha
  rw [aZ]
  omega
theorem zla {S : Nat → Bool} {n : Nat} (h : ∃ i, i < n ∧ S i = false) : S (nw n S) = false ∧ nw n S < n ∧ ∀ j, j < nw n S → S j = true := by
 unfold nw
 cases hf : (List.range n).find? fun i => !S i with
 | none =>
  obtain ⟨i, hi, hs⟩ := h
  have := dP.1 hf i (dN.2 hi)
  rw [hs] at this
  exact absurd rfl this
 | some q =>
  obtain ⟨h1, as, bs, h2, h3⟩ := List.find?_eq_some_iff_append.1 hf
  have hlen := congrArg List.length h2
  rw [fZ, aA, aZ] at hlen
  have hq : q = as.length := by
   have : (List.range n)[as.length]? = (as ++ q :: bs)[as.length]? := by rw [h2]
   rw [dV oQ, dM (aX _), Nat.sub_self] at this
   simpa using this.symm
  show S q = false ∧ q < n ∧ ∀ j, j < q → S j = true
  refine ⟨by simpa using h1, oQ, fun j hj => ?_⟩
  have hm : j ∈ as := by
   have : (List.range n)[j]? = (as ++ q :: bs)[j]? := by rw [h2]
   rw [dV oQ, cE oQ] at this
   exact cH this.symm
  simpa using h3 j hm
theorem Acc.free {n : Nat} {S : Nat → Bool} {L : List Nat} (h : Acc n S L) (hr : L.length + 1 < n) : S (nw n S) = false ∧ nw n S < n ∧ (∀ j, j < nw n S → S j = true) ∧ 1 ≤ nw n S ∧ nw n S ∉ L := by
 have hex : ∃ i, i < n ∧ S i = false := by
  by_cases hall : ∀ i, i < n → S i = true
  ·exfalso
   have := zli (l := List.range n) (L := 0 :: L) List.nodup_range fun x hx => by
    rcases (h.is x (dN.1 hx)).1 (hall x (dN.1 hx)) with rfl | h
    ·exact .head _
    ·exact .tail _ h
   rw [fZ, aZ] at this
   omega
  ·by_cases hne : ∃ i, i < n ∧ S i = false
   ·exact hne
   ·exfalso
    apply hall
    intro i hi
    cases hs : S i with
    | true => rfl
    | false => exact absurd ⟨i, hi, hs⟩ hne
 obtain ⟨h1, h2, h3⟩ := zla hex
 have h0 : S 0 = true := (h.is 0 oQ).2 (.inl rfl)
 refine ⟨h1, h2, h3, ?_, fun hm => ?_⟩
 ·rcases eS (nw n S) with h | h
  ·rw [h, h0] at h1; cases h1
  ·exact h
 ·have := (h.is _ h2).2 (.inr hm)
  rw [h1] at this; cases this
theorem Acc.add {n : Nat} {S : Nat → Bool} {L : List Nat} (h : Acc n S L) (hr : L.length + 1 < n) : Acc n (us S (nw n S) true) (nw n S :: L) := by
 obtain ⟨h1, h2, h3, h4, h5⟩ := h.free hr
 refine ⟨cS.2 ⟨h5, h.nodup⟩, fun i hi => ?_, fun x hx => ?_⟩
 ·unfold us
  by_cases e : i = nw n S
  ·rw [if_pos e]
   exact ⟨fun _ => .inr (e ▸ .head _), fun _ => rfl⟩
  ·rw [if_neg e]
   refine (h.is i hi).trans ⟨fun h => h.imp id (fun h => .tail _ h), fun h => h.imp id fun h => ?_⟩
   rcases aJ.1 h with h | h
   ·exact absurd h e
   ·exact h
 ·rcases aJ.1 hx with rfl | hx
  ·exact ⟨h4, h2⟩
  ·exact h.low x hx
theorem Acc.del {n : Nat} {S : Nat → Bool} {L : List Nat} {q : Nat} (h : Acc n S (q :: L)) : Acc n (us S q false) L := by
 obtain ⟨n1, n2⟩ := cS.1 h.nodup
 have hq := (h.low q (.head _)).1
 refine ⟨n2, fun i hi => ?_, fun x hx => h.low x (.tail _ hx)⟩
 unfold us
 by_cases e : i = q
 ·rw [if_pos e]
  refine ⟨fun h => (nomatch h), fun h => ?_⟩
  rcases h with h | h
  ·omega
  ·exact absurd (e ▸ h) n1
 ·rw [if_neg e]
  refine (h.is i hi).trans ⟨fun h => h.imp id fun h => ?_, fun h => h.imp id fun h => .tail _ h⟩
  rcases aJ.1 h with h | h
  ·exact absurd h e
  ·exact h
def qrn {h : Nat} (r : Res h) : List Nat := pgs r.1 ++ (r.2.1.map fun g => pgs g.2).getD []
structure qq0 (n : Nat) (S : Nat → Bool) {h : Nat} (t : T h) (r : Res h) (N : List Nat) : Prop where
 few : N.length ≤ h + 1
 perm : (qrn r).Perm (N ++ pgs t)
 acc : ∀ L, L.length + h + 2 < n → Acc n S L → Acc n r.2.2 (N ++ L)
theorem zws (s : Sh) (n : Nat) (S : Nat → Bool) {h : Nat} (t : T h) : ∃ N, N.length ≤ 1 ∧ (qrn (zb8 s n S t)).Perm (N ++ pgs t) ∧ ∀ L, L.length + 1 < n → Acc n S L → Acc n (zb8 s n S t).2.2 (N ++ L) := by
 obtain ⟨h1, h2⟩ := qba s n S t
 unfold qrn
 cases hg : (zb8 s n S t).2.1 with
 | none =>
  obtain ⟨a, b⟩ := h1 hg
  exact ⟨[], aV _, by rw [a]; simp, fun L _ hA => by rw [b]; exact hA⟩
 | some g =>
  obtain ⟨k, d⟩ := g
  obtain ⟨a, -, b⟩ := h2 k d hg
  exact ⟨[nw n S], aX _, a, fun L hL hA => by rw [b]; exact hA.add hL⟩
theorem zti {h : Nat} (l : List (T h)) {i : Nat} (hi : i < l.length) (x : T h) {N : List Nat} (hp : (pgs x).Perm (N ++ pgs l[i])) : ((l.set i x).flatMap pgs).Perm (N ++ l.flatMap pgs) := by
 have e1 : l.flatMap pgs = (l.take i).flatMap pgs ++ (pgs l[i] ++ (l.drop (i + 1)).flatMap pgs) := by
  conv => lhs; rw [← bE i l, bY hi]
  rw [bB, aW]
 have e2 : (l.set i x).flatMap pgs = (l.take i).flatMap pgs ++ (pgs x ++ (l.drop (i + 1)).flatMap pgs) := by
  conv => lhs; rw [← bE i (l.set i x), bY (by rw [bO]; exact hi)]
  rw [bB, aW, dC, eL oQ, dJ oQ]
 rw [e1, e2]
 refine (cV _ (cY _ hp)).trans ?_
 rw [aH]
 exact bQ _ _ _
theorem zlb {h : Nat} (l : List (T h)) (i : Nat) (x : T h) : ((ins l i x).flatMap pgs).Perm (pgs x ++ l.flatMap pgs) := by
 unfold ins
 rw [bB, aW]
 refine (bQ _ _ _).trans ?_
 rw [← bB, bE]
theorem qa0 (s : Sh) (n : Nat) (k v : K) : ∀ {h : Nat} (t : T h) (S : Nat → Bool), (∀ (h' : Nat), True) → ∃ N, qq0 n S t (zn2 s n t k v S) N
 | 0, (p, es), S, _ => by
  obtain ⟨N, h1, h2, h3⟩ := zws s n S (zbj p (zfp es k v))
  exact ⟨N, h1, h2, fun L hL hA => h3 L oQ hA⟩
 | h + 1, (p, ks, kids), S, _ => by
  cases hc : kids[dn ks k]? with
  | none =>
   have hput : zn2 s n (h := h + 1) (p, ks, kids) k v S = ((p, ks, kids), none, S) := by
    simp only [zn2, hc] <;> rfl
   rw [hput]
   exact ⟨[], aV _, by show (pgs (zat p ks kids) ++ []).Perm _; rw [bA]; exact .refl _, fun L _ hA => hA⟩
  | some c =>
   obtain ⟨hi, rfl⟩ := aM.1 hc
   obtain ⟨N1, f1, p1, a1⟩ := qa0 s n k v kids[dn ks k] S (fun _ => trivial)
   have hput : zn2 s n (h := h + 1) (p, ks, kids) k v S = match zn2 s n kids[dn ks k] k v S with
    | (c', none, S') => (zat p ks (kids.set (dn ks k) c'), none, S')
    | (c', some (q, d), S') => zb8 s n S' (zat p (ins ks (dn ks k) q) (ins (kids.set (dn ks k) c') (dn ks k + 1) d)) := by
    simp only [zn2, hc] <;> rfl
   rw [hput]
   obtain ⟨⟨c', g, S'⟩, hr⟩ : ∃ r, zn2 s n kids[dn ks k] k v S = r := ⟨_, rfl⟩
   rw [hr] at p1 a1 ⊢
   cases g with
   | none =>
    have p1 : (pgs c' ++ []).Perm (N1 ++ pgs kids[dn ks k]) := p1
    rw [bA] at p1
    refine ⟨N1, oQ, ?_, fun L hL hA => a1 L oQ hA⟩
    show ((p :: (kids.set (dn ks k) c').flatMap pgs) ++ []).Perm (N1 ++ p :: kids.flatMap pgs)
    rw [bA]
    exact (List.Perm.cons _ (zti kids hi c' p1)).trans bJ.symm
   | some g =>
    obtain ⟨q, d⟩ := g
    have p1 : (pgs c' ++ pgs d).Perm (N1 ++ pgs kids[dn ks k]) := p1
    obtain ⟨N2, g1, g2, g3⟩ := zws s n S' (zat p (ins ks (dn ks k) q) (ins (kids.set (dn ks k) c') (dn ks k + 1) d))
    refine ⟨N2 ++ N1, by rw [aA]; omega, ?_, fun L hL hA => ?_⟩
    ·refine g2.trans ?_
     rw [aH]
     refine cV _ ?_
     show (p :: (ins (kids.set (dn ks k) c') (dn ks k + 1) d).flatMap pgs).Perm (N1 ++ p :: kids.flatMap pgs)
     refine (List.Perm.cons _ ?_).trans bJ.symm
     refine (zlb _ _ _).trans ?_
     have e1 : kids.flatMap pgs = (kids.take (dn ks k)).flatMap pgs ++ (pgs kids[dn ks k] ++ (kids.drop (dn ks k + 1)).flatMap pgs) := by
      conv => lhs; rw [← bE (dn ks k) kids, bY hi]
      rw [bB, aW]
     have e2 : (kids.set (dn ks k) c').flatMap pgs = (kids.take (dn ks k)).flatMap pgs ++ (pgs c' ++ (kids.drop (dn ks k + 1)).flatMap pgs) := by
      conv => lhs; rw [← bE (dn ks k) (kids.set (dn ks k) c'), bY (by rw [bO]; exact hi)]
      rw [bB, aW, dC, eL oQ, dJ oQ]
     rw [e1, e2]
     have hp2 : (pgs d ++ pgs c').Perm (N1 ++ pgs kids[dn ks k]) := dW.trans p1
     generalize (kids.take (dn ks k)).flatMap pgs = A
     generalize (kids.drop (dn ks k + 1)).flatMap pgs = B
     refine (bQ _ _ _).trans ?_
     refine List.Perm.trans ?_ (bQ _ _ _)
     refine cV _ ?_
     rw [← aH, ← aH]
     exact cY _ hp2
    ·have hA1 := a1 L oQ hA
     have := g3 (N1 ++ L) (by rw [aA]; omega) hA1
     rwa [aH]
/-! ### rows of parts, taken apart and put together -/
theorem Sep.two : ∀ {P : List K} {X : List E} {q : K} {R : List K} {Y : List E}, P.length + 1 = X.length → Ks (P ++ q :: R) → Sep (P ++ q :: R) (X ++ Y) → Sep P X ∧ Sep R Y ∧ (∀ e ∈ X, ze6 e q) ∧ (∀ e ∈ Y, zgn e q) ∧ ∀ k ∈ P, ∀ e ∈ Y, zgn e k
 | [], [a], q, R, Y, _, _, h => ⟨trivial, h.2.2, fun e he => (aL.1 he) ▸ h.1, h.2.1, fun _ h => nomatch h⟩
 | [], [], _, _, _, h, _, _ => absurd h sQ
 | [], _ :: _ :: _, _, _, _, h, _, _ => absurd h sQ
 | k :: P, [], _, _, _, h, _, _ => absurd h sQ
 | k :: P, e :: X, q, R, Y, hl, hk, h => by
  obtain ⟨k1, k2⟩ := bL.1 hk
  obtain ⟨h1, h2, h3⟩ : ze6 e k ∧ (∀ e' ∈ X ++ Y, zgn e' k) ∧ Sep (P ++ q :: R) (X ++ Y) := h
  obtain ⟨i1, i2, i3, i4, i5⟩ := Sep.two (by simpa using hl) k2 h3
  refine ⟨⟨h1, fun e' he => h2 e' (aK _ he), i1⟩, i2, fun e' he => ?_, i4, fun k' hk' e' he => ?_⟩
  ·rcases aJ.1 he with rfl | he
   ·exact fun x hx => zb1 (h1 x hx) (k1 q (aP _ (.head _)))
   ·exact i3 e' he
  ·rcases aJ.1 hk' with rfl | hk'
   ·exact h2 e' (aP _ he)
   ·exact i5 k' hk' e' he
theorem Sep.last : ∀ {P : List K} {X : List E} {a l : E}, Sep P (X ++ [a]) → (∀ k ∈ P, zgn l k) → Sep P (X ++ [l])
 | [], [], _, _, _, _ => trivial
 | [], _ :: X, a, _, h, _ => by have := h.len; simp at this
 | k :: P, [], a, _, h, _ => by have := h.len; simp at this
 | k :: P, e :: X, a, l, h, hl => by
  refine ⟨h.1, fun e' he => ?_, Sep.last h.2.2 fun k' hk => hl k' (.tail _ hk)⟩
  rcases aS.1 he with he | he
  ·exact h.2.1 e' (aK _ he)
  ·exact (aL.1 he) ▸ hl k (.head _)
theorem Sep.first {R : List K} {Y : List E} {b d : E} (h : Sep R (b :: Y)) (hd : ∀ k ∈ R, ze6 d k) : Sep R (d :: Y) := by
 match R, Y, h with
 | [], [], _ => trivial
 | k :: R, Y, h => exact ⟨hd k (.head _), h.2.1, h.2.2⟩
theorem Sep.glue : ∀ {P : List K} {X : List E} {e : E} {R : List K} {Y : List E}, Sep P (X ++ [e]) → Sep R (e :: Y) → (∀ k ∈ P, ∀ e' ∈ Y, zgn e' k) → Sep (P ++ R) (X ++ e :: Y)
 | [], [], _, _, _, _, h, _ => h
 | [], _ :: X, _, _, _, h, _, _ => by have := h.len; simp at this
 | k :: P, [], _, _, _, h, _, _ => by have := h.len; simp at this
 | k :: P, x :: X, e, R, Y, h, h2, hc => by
  refine ⟨h.1, fun e' he => ?_, Sep.glue h.2.2 h2 fun k' hk => hc k' (.tail _ hk)⟩
  rcases aS.1 he with he | he
  ·exact h.2.1 e' (aK _ he)
  ·rcases aJ.1 he with rfl | he
   ·exact h.2.1 _ (aP _ (.head _))
   ·exact hc k (.head _) e' he
theorem Sep.keyLt {P : List K} {X : List E} {q : K} (h : Sep P X) (hk : Ks P) (hne : ∀ e ∈ X, e ≠ []) (hl : ∀ e ∈ X, ze6 e q) : ∀ k ∈ P, kl k q := by
 intro k hk'
 obtain ⟨i, hi, rfl⟩ := bI hk'
 obtain ⟨p1, p2⟩ := h.part hk
 have hlen := h.len
 have hj : i + 1 < X.length := oQ
 obtain ⟨x, hx⟩ := cU _ (hne _ (aR hj))
 exact zdg (p2 i (i + 1) hi hj (eU i) x hx) (hl _ (aR hj) x hx)
theorem Sep.ltKey {R : List K} {Y : List E} {q : K} (h : Sep R Y) (hk : Ks R) (hne : ∀ e ∈ Y, e ≠ []) (hg : ∀ e ∈ Y, zgn e q) : ∀ k ∈ R, kl q k := by
 intro k hk'
 obtain ⟨i, hi, rfl⟩ := bI hk'
 obtain ⟨p1, p2⟩ := h.part hk
 have hlen := h.len
 have hj : i < Y.length := oQ
 obtain ⟨x, hx⟩ := cU _ (hne _ (aR hj))
 exact zdg (hg _ (aR hj) x hx) (p1 i i hi hj (aX _) x hx)
theorem qft {P R : List K} {q : K} (h1 : Ks P) (h2 : Ks R) (l1 : ∀ k ∈ P, kl k q) (l2 : ∀ k ∈ R, kl q k) : Ks (P ++ q :: R) := by
 unfold Ks
 rw [bP]
 refine ⟨h1, bL.2 ⟨l2, h2⟩, fun x hx y hy => ?_⟩
 rcases aJ.1 hy with rfl | hy
 ·exact l1 x hx
 ·exact zb1 (l1 x hx) (l2 y hy)
theorem qi7 {P R : List K} {q : K} (h : Ks (P ++ q :: R)) : Ks P ∧ Ks R ∧ (∀ k ∈ P, kl k q) ∧ (∀ k ∈ R, kl q k) ∧ Ks (P ++ R) := by
 unfold Ks at *
 rw [bP] at h
 obtain ⟨h1, h2, h3⟩ := h
 obtain ⟨h4, h5⟩ := bL.1 h2
 exact ⟨h1, h5, fun k hk => h3 k hk q (.head _), h4, bP.2 ⟨h1, h5, fun x hx y hy => h3 x hx y (.tail _ hy)⟩⟩
/-! ### joined -/
def zcq : {h : Nat} → T h → T h → K → T h
 | 0, a, b, _ => zbj a.1 (a.2 ++ b.2)
 | _ + 1, a, b, q => zat a.1 (a.2.1 ++ q :: b.2.1) (a.2.2 ++ b.2.2)
theorem zgs : ∀ {h : Nat} (a b : T h) (q : K), sz (zcq a b q) = sz a + sz b
 | 0, (_, _), (_, _), _ => aA
 | _ + 1, (_, _, _), (_, _, _), _ => aA
theorem qfm : ∀ {h : Nat} (a b : T h) (q : K), ents (zcq a b q) = ents a ++ ents b
 | 0, (_, _), (_, _), _ => rfl
 | _ + 1, (_, _, _), (_, _, _), _ => bB
theorem zmh : ∀ {h : Nat} (a b : T h) (q : K), pg (zcq a b q) = pg a
 | 0, (_, _), (_, _), _ => rfl
 | _ + 1, (_, _, _), (_, _, _), _ => rfl
theorem qag : ∀ {h : Nat} (a b : T h) (q : K), (pgs a ++ pgs b).Perm (pg b :: pgs (zcq a b q))
 | 0, (_, _), (_, _), _ => .swap _ _ _
 | _ + 1, (pa, _, A), (pb, _, B), _ => by
  show ((pa :: A.flatMap pgs) ++ (pb :: B.flatMap pgs)).Perm (pb :: pa :: (A ++ B).flatMap pgs)
  rw [bB]
  exact bJ
theorem zru (s : Sh) : ∀ {h : Nat} (a b : T h) (q : K), Below s a → Below s b → Below s (zcq a b q)
 | 0, _, _, _, _, _ => trivial
 | _ + 1, (_, _, _), (_, _, _), _, ha, hb => fun x hx => (aS.1 hx).elim (ha x) (hb x)
theorem qfo (s : Sh) : ∀ {h : Nat} (a b : T h) (q : K), Wd s a → Wd s b → q.length = s.kw → Wd s (zcq a b q)
 | 0, (_, _), (_, _), _, ha, hb, _ => fun x hx => (aS.1 hx).elim (ha x) (hb x)
 | _ + 1, (_, _, _), (_, _, _), q, ha, hb, hq => by
  refine ⟨fun k hk => ?_, fun x hx => (aS.1 hx).elim (ha.2 x) (hb.2 x)⟩
  rcases aS.1 hk with hk | hk
  ·exact ha.1 k hk
  ·rcases aJ.1 hk with rfl | hk
   ·exact hq
   ·exact hb.1 k hk
theorem qaf (s : Sh) (h2 : ∀ h, 2 ≤ mx s h) : ∀ {h : Nat} (a b : T h) (q : K), Ord a → Ord b → Below s a → Below s b → ze6 (ents a) q → zgn (ents b) q → Ord (zcq a b q)
 | 0, (_, ea), (_, eb), q, ha, hb, _, _, la, gb => by
  have ha : Es ea := ha
  have hb : Es eb := hb
  show Es (ea ++ eb)
  unfold Es Ks
  rw [cD, bP]
  refine ⟨ha, hb, fun x hx y hy => ?_⟩
  obtain ⟨p, hp, rfl⟩ := aT.1 hx
  obtain ⟨r, hr, rfl⟩ := aT.1 hy
  exact ztv (la p hp) (gb r hr)
 | h + 1, (_, P, X), (_, R, Y), q, ha, hb, ba, bb, la, gb => by
  obtain ⟨a1, a2, a3⟩ : Ks P ∧ Sep P (X.map ents) ∧ ∀ x ∈ X, Ord x := ha
  obtain ⟨b1, b2, b3⟩ : Ks R ∧ Sep R (Y.map ents) ∧ ∀ x ∈ Y, Ord x := hb
  have ba : ∀ x ∈ X, mx s h / 2 ≤ sz x ∧ sz x ≤ mx s h ∧ Below s x := ba
  have bb : ∀ x ∈ Y, mx s h / 2 ≤ sz x ∧ sz x ≤ mx s h ∧ Below s x := bb
  have hh := h2 h
  have ne : ∀ Z : List (T h), (∀ x ∈ Z, mx s h / 2 ≤ sz x ∧ sz x ≤ mx s h ∧ Below s x) → ∀ e ∈ Z.map ents, e ≠ [] := fun Z hZ e he => by
   obtain ⟨x, hx, rfl⟩ := aT.1 he
   obtain ⟨c1, -, c3⟩ := hZ x hx
   exact zhy s h2 x c3 oQ
  have la' : ∀ e ∈ X.map ents, ze6 e q := fun e he p hp => by
   obtain ⟨x, hx, rfl⟩ := aT.1 he
   exact la p (cB.2 ⟨x, hx, hp⟩)
  have gb' : ∀ e ∈ Y.map ents, zgn e q := fun e he p hp => by
   obtain ⟨x, hx, rfl⟩ := aT.1 he
   exact gb p (cB.2 ⟨x, hx, hp⟩)
  have k1 := a2.keyLt a1 (ne X ba) la'
  have k2 := b2.ltKey b1 (ne Y bb) gb'
  refine ⟨qft a1 b1 k1 k2, ?_, fun x hx => (aS.1 hx).elim (a3 x) (b3 x)⟩
  show Sep (P ++ q :: R) ((X ++ Y).map ents)
  rw [cD]
  exact Sep.join b2 gb' a2 (fun k hk e he p hp h => gb' e he p hp (zb1 h (k1 k hk))) la'
section
variable {α : Type}
theorem zu0 : ∀ (X : List α) (a : α) (Y : List α), (X ++ a :: Y)[X.length]? = some a
 | [], _, _ => rfl
 | _ :: X, a, Y => zu0 X a Y
theorem zs0 : ∀ (X : List α) (a b : α) (Y : List α), (X ++ a :: b :: Y)[X.length + 1]? = some b
 | [], _, _, _ => rfl
 | _ :: X, a, b, Y => zs0 X a b Y
theorem zm2 : ∀ (X : List α) (a c : α) (Y : List α), (X ++ a :: Y).set X.length c = X ++ c :: Y
 | [], _, _, _ => rfl
 | x :: X, a, c, Y => congrArg (x :: ·) (zm2 X a c Y)
theorem zoc : ∀ (X : List α) (a b c : α) (Y : List α), (X ++ a :: b :: Y).set (X.length + 1) c = X ++ a :: c :: Y
 | [], _, _, _, _ => rfl
 | x :: X, a, b, c, Y => congrArg (x :: ·) (zoc X a b c Y)
theorem zz9 : ∀ (X : List α) (a : α) (Y : List α), (X ++ a :: Y).eraseIdx X.length = X ++ Y
 | [], _, _ => rfl
 | x :: X, a, Y => congrArg (x :: ·) (zz9 X a Y)
theorem ztc : ∀ (X : List α) (a b : α) (Y : List α), (X ++ a :: b :: Y).eraseIdx (X.length + 1) = X ++ a :: Y
 | [], _, _, _ => rfl
 | x :: X, a, b, Y => congrArg (x :: ·) (ztc X a b Y)
theorem ztk (X : List K) (a : K) (Y : List K) : (X ++ a :: Y).getD X.length [] = a := by
 rw [aC, zu0]; rfl
end
def zhh (s : Sh) (n : Nat) (S : Nat → Bool) (p : Nat) (ks : List K) {h : Nat} (kids : List (T h)) (i : Nat) : T (h + 1) × (Nat → Bool) :=
 match kids[i - 1]?, kids[i - 1 + 1]? with
 | some a, some b =>
  if mx s h < sz (zcq a b (ks.getD (i - 1) [])) then
   match zb8 s n (us S (pg b) false) (zcq a b (ks.getD (i - 1) [])) with
   | (l, some (q, d), S') => (zat p (ks.set (i - 1) q) ((kids.set (i - 1) l).set (i - 1 + 1) d), S')
   | (_, none, S') => (zat p ks kids, S')
  else (zat p (ks.eraseIdx (i - 1)) ((kids.set (i - 1) (zcq a b (ks.getD (i - 1) []))).eraseIdx (i - 1 + 1)), us S (pg b) false)
 | _, _ => (zat p ks kids, S)
structure qoi (s : Sh) (n : Nat) (S : Nat → Bool) (p : Nat) {h : Nat} (kids : List (T h)) (r : T (h + 1) × (Nat → Bool)) : Prop where
 page : pg r.1 = p
 ents : ents r.1 = kids.flatMap Tr.ents
 ord : Ord r.1
 wd : Wd s r.1
 below : Below s r.1
 le : sz r.1 ≤ kids.length
 ge : kids.length ≤ sz r.1 + 1
 acc : ∀ L, Acc n S (p :: kids.flatMap pgs ++ L) → Acc n r.2 (pgs r.1 ++ L)
theorem Acc.room {n : Nat} {S : Nat → Bool} {L : List Nat} (h : Acc n S L) (h0 : 0 < n) : L.length < n := by
 have := zli (l := 0 :: L) (L := List.range n) (cS.2 ⟨fun h' => by have := (h.low 0 h').1; omega, h.nodup⟩) fun x hx => by
  rcases aJ.1 hx with rfl | hx
  ·exact dN.2 h0
  ·exact dN.2 (h.low x hx).2
 rw [fZ, aZ] at this
 omega
theorem qmo (s : Sh) (n : Nat) (hn : 0 < n) (h2 : ∀ h, 2 ≤ mx s h) (S : Nat → Bool) (p : Nat) {h : Nat} {P R : List K} {q0 : K} {X Y : List (T h)} {a b : T h} (hl : X.length = P.length) (o1 : Ks (P ++ q0 :: R)) (o2 : Sep (P ++ q0 :: R) ((X ++ a :: b :: Y).map ents)) (o3 : ∀ x ∈ X ++ a :: b :: Y, Ord x)
  (w1 : ∀ k ∈ P ++ q0 :: R, k.length = s.kw) (w2 : ∀ x ∈ X ++ a :: b :: Y, Wd s x) (hB : ∀ x ∈ X ++ a :: b :: Y, Below s x) (hX : ∀ x ∈ X ++ Y, mx s h / 2 ≤ sz x ∧ sz x ≤ mx s h) (hab : sz a + sz b ≤ mx s h + mx s h / 2) (hab2 : mx s h / 2 ≤ sz a + sz b) (i : Nat) (hi : i - 1 = X.length) :
  qoi s n S p (X ++ a :: b :: Y) (zhh s n S p (P ++ q0 :: R) (X ++ a :: b :: Y) i) := by
 have hm : zhh s n S p (P ++ q0 :: R) (X ++ a :: b :: Y) i =
   if mx s h < sz a + sz b then
    match zb8 s n (us S (pg b) false) (zcq a b q0) with
    | (l, some (q, d), S') => (zat p (P ++ q :: R) (X ++ l :: d :: Y), S')
    | (_, none, S') => (zat p (P ++ q0 :: R) (X ++ a :: b :: Y), S')
   else (zat p (P ++ R) (X ++ zcq a b q0 :: Y), us S (pg b) false) := by
  have e1 : ∀ l, (X ++ a :: b :: Y).set X.length l = X ++ l :: b :: Y := fun l => zm2 X a l (b :: Y)
  have e2 : ∀ l d, (X ++ l :: b :: Y).set (X.length + 1) d = X ++ l :: d :: Y := fun l d => zoc X l b d Y
  have e3 : ∀ q, (P ++ q0 :: R).set X.length q = P ++ q :: R := fun q => by rw [hl]; exact zm2 P q0 q R
  have e4 : (P ++ q0 :: R).eraseIdx X.length = P ++ R := by rw [hl]; exact zz9 P q0 R
  have e5 : (P ++ q0 :: R).getD X.length [] = q0 := by rw [hl]; exact ztk P q0 R
  have e6 : ∀ l, (X ++ l :: b :: Y).eraseIdx (X.length + 1) = X ++ l :: Y := fun l => ztc X l b Y
  unfold zhh
  rw [hi, zu0, zs0]
  simp only [e1, e2, e3, e4, e5, e6, zgs]
 rw [hm]
 obtain ⟨k1, k2, k3, k4, k5⟩ := qi7 o1
 have hsp : Sep (P ++ q0 :: R) ((X.map ents ++ [ents a]) ++ (ents b :: Y.map ents)) := by
  have := o2
  rw [cD, bD, bD] at this
  simpa using this
 obtain ⟨t1, t2, t3, t4, t5⟩ := Sep.two (P := P) (X := X.map ents ++ [ents a]) (by simp [hl]) o1 hsp
 have la : ze6 (ents a) q0 := t3 _ (aP _ (.head _))
 have gb : zgn (ents b) q0 := t4 _ (.head _)
 have ma : a ∈ X ++ a :: b :: Y := aP _ (.head _)
 have mb : b ∈ X ++ a :: b :: Y := aP _ (.tail _ (.head _))
 have mX : ∀ x ∈ X, x ∈ X ++ a :: b :: Y := fun x hx => aK _ hx
 have mY : ∀ x ∈ Y, x ∈ X ++ a :: b :: Y := fun x hx => aP _ (.tail _ (.tail _ hx))
 have hO := qaf s h2 a b q0 (o3 a ma) (o3 b mb) (hB a ma) (hB b mb) la gb
 have hW := qfo s a b q0 (w2 a ma) (w2 b mb) (w1 q0 (aP _ (.head _)))
 have hBl := zru s a b q0 (hB a ma) (hB b mb)
 have hents := qfm a b q0
 have hflat : (X ++ a :: b :: Y).flatMap ents = X.flatMap ents ++ ((ents a ++ ents b) ++ Y.flatMap ents) := by
  rw [bB, aW, aW, aH]
 -- the keys behind are greater, those ahead are not
 have gP : ∀ k ∈ P, zgn (ents a ++ ents b) k := fun k hk x hx => by
  rcases aS.1 hx with hx | hx
  ·obtain ⟨j, hj, rfl⟩ := bI hk
   obtain ⟨-, p2⟩ := t1.part k1
   have hlen := t1.len
   have := p2 j (X.map ents).length hj sQ (by rw [aG]; omega)
   rw [List.getElem_append_right (aX _)] at this
   simp only [Nat.sub_self, iK] at this
   exact this x hx
  ·exact t5 k hk _ (.head _) x hx
 have lR : ∀ k ∈ R, ze6 (ents a ++ ents b) k := fun k hk x hx => by
  rcases aS.1 hx with hx | hx
  ·exact zb1 (la x hx) (k4 k hk)
  ·obtain ⟨j, hj, rfl⟩ := bI hk
   obtain ⟨p1, -⟩ := t2.part k2
   have := p1 j 0 hj sQ (aV _)
   exact this x hx
 have gY : ∀ k ∈ P, ∀ e ∈ Y.map ents, zgn e k := fun k hk e he => t5 k hk e (.tail _ he)
 have lX : ∀ e ∈ X.map ents, ze6 e q0 := fun e he => t3 e (aK _ he)
 have hperm : (p :: (X ++ a :: b :: Y).flatMap pgs).Perm (pg b :: (p :: (X.flatMap pgs ++ (pgs (zcq a b q0) ++ Y.flatMap pgs)))) := by
  rw [bB, aW, aW]
  refine List.Perm.trans ?_ (.swap _ _ _)
  refine .cons _ ?_
  refine (cV _ ?_).trans bJ
  rw [← aH]
  exact cY _ (qag a b q0)
 split
 ·rename_i hbig
  have hsok := zoe s n (us S (pg b) false) (zcq a b q0) hO hW hBl (by rw [zgs]; exact hab) (h2 h)
  have hspg := qba s n (us S (pg b) false) (zcq a b q0)
  rw [hents] at hsok
  obtain ⟨⟨l, g, S'⟩, hr⟩ : ∃ r, zb8 s n (us S (pg b) false) (zcq a b q0) = r := ⟨_, rfl⟩
  have hsn : g ≠ none := fun hg => by
   subst hg
   have := (hsok.none (by rw [hr])).2.2.2.1
   have h3 := (hspg.none (by rw [hr]))
   -- a split znc a node as it is only if it is not too great
   have hle : ∀ {h : Nat} (t : T h) (S : Nat → Bool), (zb8 s n S t).2.1 = none → sz t ≤ mx s h := by
    intro h t S hnone
    cases h with
    | zero =>
     obtain ⟨tp, te⟩ := t
     change (zb8 s n S (zbj tp te)).2.1 = none at hnone
     rw [zm4] at hnone
     split at hnone
     ·rename_i hc; exact hc
     ·cases hnone
    | succ h =>
     obtain ⟨tp, tk, tc⟩ := t
     change (zb8 s n S (zat tp tk tc)).2.1 = none at hnone
     rw [zm5] at hnone
     split at hnone
     ·rename_i hc; exact hc
     ·cases hnone
   have := hle (zcq a b q0) (us S (pg b) false) (by rw [hr])
   rw [zgs] at this
   omega
  rw [hr] at hsok hspg ⊢
  match g, hsn with
  | some (q, d), _ =>
   obtain ⟨e1, e2, e3, e4, e5, e6, e7, e8, e9, e10, e11, e12, e13, e14⟩ := hsok.some q d rfl
   obtain ⟨g1, g2, g3⟩ := hspg.some q d rfl
   simp only at e1 e2 e3 e4 e5 e6 e7 e8 e9 e10 e11 e12 e13 e14 g1 g2 g3 ⊢
   have hh := h2 h
   have nl := zhy s h2 l e13 oQ
   have nd := zhy s h2 d e14 oQ
   obtain ⟨x1, hx1⟩ := cU _ nl
   obtain ⟨x2, hx2⟩ := cU _ nd
   have s1 : ∀ x ∈ ents l, x ∈ ents a ++ ents b := fun x hx => by rw [← e1]; exact aK _ hx
   have s2 : ∀ x ∈ ents d, x ∈ ents a ++ ents b := fun x hx => by rw [← e1]; exact aP _ hx
   have qP : ∀ k ∈ P, kl k q := fun k hk => zdg (gP k hk x1 (s1 x1 hx1)) (e7 x1 hx1)
   have qR : ∀ k ∈ R, kl q k := fun k hk => zdg (e8 x2 hx2) (lR k hk x2 (s2 x2 hx2))
   have hSep : Sep (P ++ q :: R) ((X.map ents ++ [ents l]) ++ (ents d :: Y.map ents)) := by
    refine Sep.join (t2.first fun k hk x hx => lR k hk x (s2 x hx)) (fun e he => ?_) (t1.last fun k hk x hx => gP k hk x (s1 x hx)) (fun k hk e he => ?_) fun e he => ?_
    ·rcases aJ.1 he with rfl | he
     ·exact e8
     ·intro x hx hxq
      cases hRl : R with
      | nil => 
       have hlen := t2.len
       rw [hRl] at hlen
       simp at hlen
       rw [hlen] at he
       cases he
      | cons r R' =>
       obtain ⟨-, p2⟩ := t2.part k2
       obtain ⟨j, hj, rfl⟩ := bI he
       have := p2 0 (j + 1) (by rw [hRl]; simp) (by simpa using hj) (dX _)
       rw [List.getElem_cons_succ] at this
       exact this x hx (zb1 hxq (qR _ (aR _)))
    ·rcases aJ.1 he with rfl | he
     ·exact fun x hx => gP k hk x (s2 x hx)
     ·exact gY k hk e he
    ·rcases aS.1 he with he | he
     ·intro x hx
      cases hPl : P with
      | nil =>
       have hX0 : X = [] := by rw [hPl] at hl; exact bM hl
       rw [hX0] at he
       cases he
      | cons r P' =>
       obtain ⟨j, hj, rfl⟩ := bI he
       rw [aG] at hj
       obtain ⟨p1, -⟩ := t1.part k1
       have := p1 j j oQ (by simp; omega) (aX _)
       rw [List.getElem_append_left (by rw [aG]; exact hj)] at this
       exact zb1 (this x hx) (qP _ (aR _))
     ·exact (aL.1 he) ▸ e7
   refine ⟨rfl, ?_, ⟨qft k1 k2 qP qR, ?_, fun x hx => ?_⟩, ⟨fun k hk => ?_, fun x hx => ?_⟩, fun x hx => ?_, ?_, ?_, fun L hA => ?_⟩
   ·show (X ++ l :: d :: Y).flatMap ents = (X ++ a :: b :: Y).flatMap ents
    rw [hflat, bB, aW, aW, ← e1, aH]
   ·show Sep (P ++ q :: R) ((X ++ l :: d :: Y).map ents)
    rw [cD, bD, bD]
    simpa using hSep
   ·rcases aS.1 hx with hx | hx
    ·exact o3 x (mX x hx)
    ·rcases aJ.1 hx with rfl | hx
     ·exact e2
     ·rcases aJ.1 hx with rfl | hx
      ·exact e3
      ·exact o3 x (mY x hx)
   ·rcases aS.1 hk with hk | hk
    ·exact w1 k (aK _ hk)
    ·rcases aJ.1 hk with rfl | hk
     ·exact e6
     ·exact w1 k (aP _ (.tail _ hk))
   ·rcases aS.1 hx with hx | hx
    ·exact w2 x (mX x hx)
    ·rcases aJ.1 hx with rfl | hx
     ·exact e4
     ·rcases aJ.1 hx with rfl | hx
      ·exact e5
      ·exact w2 x (mY x hx)
   ·rcases aS.1 hx with hx | hx
    ·obtain ⟨c1, c2⟩ := hX x (aK _ hx); exact ⟨c1, c2, hB x (mX x hx)⟩
    ·rcases aJ.1 hx with rfl | hx
     ·exact ⟨e9, e10, e13⟩
     ·rcases aJ.1 hx with rfl | hx
      ·exact ⟨e11, e12, e14⟩
      ·obtain ⟨c1, c2⟩ := hX x (aP _ hx); exact ⟨c1, c2, hB x (mY x hx)⟩
   ·show (X ++ l :: d :: Y).length ≤ _; simp
   ·show _ ≤ (X ++ l :: d :: Y).length + 1; simp
   ·have hA1 := hA.perm ((cY L hperm))
    have hA2 : Acc n (us S (pg b) false) ((p :: (X.flatMap pgs ++ (pgs (zcq a b q0) ++ Y.flatMap pgs))) ++ L) := hA1.del
    have hroom := hA1.room hn
    have hA3 := hA2.add (by rw [aA] at hroom ⊢; rw [aZ] at hroom; omega)
    rw [g3]
    refine hA3.perm ?_
    show (nw n (us S (pg b) false) :: ((p :: (X.flatMap pgs ++ (pgs (zcq a b q0) ++ Y.flatMap pgs))) ++ L)).Perm ((p :: (X ++ l :: d :: Y).flatMap pgs) ++ L)
    rw [← aE]
    refine cY L ?_
    refine (List.Perm.swap _ _ _).trans (.cons _ ?_)
    rw [bB, aW, aW]
    refine bJ.symm.trans (cV _ ?_)
    rw [← aE, ← aH]
    exact cY _ g1.symm
 ·rename_i hsmall
  have hSep : Sep (P ++ R) (X.map ents ++ (ents a ++ ents b) :: Y.map ents) := Sep.glue (t1.last gP) (t2.first lR) gY
  refine ⟨rfl, ?_, ⟨k5, ?_, fun x hx => ?_⟩, ⟨fun k hk => ?_, fun x hx => ?_⟩, fun x hx => ?_, ?_, ?_, fun L hA => ?_⟩
  ·show (X ++ zcq a b q0 :: Y).flatMap ents = (X ++ a :: b :: Y).flatMap ents
   rw [hflat, bB, aW, hents]
  ·show Sep (P ++ R) ((X ++ zcq a b q0 :: Y).map ents)
   rw [cD, bD, hents]
   exact hSep
  ·rcases aS.1 hx with hx | hx
   ·exact o3 x (mX x hx)
   ·rcases aJ.1 hx with rfl | hx
    ·exact hO
    ·exact o3 x (mY x hx)
  ·rcases aS.1 hk with hk | hk
   ·exact w1 k (aK _ hk)
   ·exact w1 k (aP _ (.tail _ hk))
  ·rcases aS.1 hx with hx | hx
   ·exact w2 x (mX x hx)
   ·rcases aJ.1 hx with rfl | hx
    ·exact hW
    ·exact w2 x (mY x hx)
  ·rcases aS.1 hx with hx | hx
   ·obtain ⟨c1, c2⟩ := hX x (aK _ hx); exact ⟨c1, c2, hB x (mX x hx)⟩
   ·rcases aJ.1 hx with rfl | hx
    ·rw [zgs]; exact ⟨hab2, oQ, hBl⟩
    ·obtain ⟨c1, c2⟩ := hX x (aP _ hx); exact ⟨c1, c2, hB x (mY x hx)⟩
  ·show (X ++ zcq a b q0 :: Y).length ≤ (X ++ a :: b :: Y).length; simp
  ·show (X ++ a :: b :: Y).length ≤ (X ++ zcq a b q0 :: Y).length + 1; simp; omega
  ·have hA1 := hA.perm ((cY L hperm))
   have hA2 : Acc n (us S (pg b) false) ((p :: (X.flatMap pgs ++ (pgs (zcq a b q0) ++ Y.flatMap pgs))) ++ L) := hA1.del
   show Acc n (us S (pg b) false) ((p :: (X ++ zcq a b q0 :: Y).flatMap pgs) ++ L)
   rw [bB, aW]
   exact hA2
def keys (e : E) : List K := e.map (·.1)
theorem ztl {e : E} {k : K} : (zld e k).isSome = true ↔ k ∈ keys e := by
 unfold zld keys
 rw [iO, List.find?_isSome]
 constructor
 ·rintro ⟨p, hp, h⟩; exact aT.2 ⟨p, hp, of_decide_eq_true h⟩
 ·intro h
  obtain ⟨p, hp, h⟩ := aT.1 h
  exact ⟨p, hp, decide_eq_true h⟩
theorem zs7 : ∀ {e : E} {k : K}, Es e → k ∈ keys e → (zc1 e k).length + 1 = e.length
 | [], _, _, h => by cases h
 | p :: r, k, h, hk => by
  obtain ⟨h1, h2⟩ : (∀ a ∈ r.map (·.1), kl p.1 a) ∧ Es r := bL.1 h
  unfold zc1
  by_cases e : p.1 = k
  ·have hr : r.filter (fun q => decide (q.1 ≠ k)) = r := cX.2 fun q hq => by
    have := zht (h1 q.1 (aT.2 ⟨q, hq, rfl⟩))
    rw [e] at this
    simpa using this.symm
   rw [dY (by simpa using e), hr, aZ]
  ·have hk' : k ∈ keys r := by
    rcases aJ.1 hk with hk | hk
    ·exact absurd hk.symm e
    ·exact hk
   rw [eT (by simpa using e), aZ, aZ]
   have := zs7 h2 hk'
   unfold zc1 at this
   omega
theorem zxy {e : E} {k : K} (h : Es e) : Es (zc1 e k) := by
 unfold Es at *
 exact dB (List.Sublist.map _ jH) h
theorem zs8 {e : E} {k : K} {p : K × K} (h : p ∈ zc1 e k) : p ∈ e := (eG.1 h).1
def zcy (s : Sh) (n : Nat) : {h : Nat} → T h → K → (Nat → Bool) → T h × Bool × (Nat → Bool)
 | 0, t, k, S => if fd (keys t.2) k then (zbj t.1 (zc1 t.2 k), true, S) else (t, false, S)
 | h + 1, t, k, S => match t.2.2[dn t.2.1 k]? with
  | none => (t, false, S)
  | some c => match zcy s n c k S with
   | (_, false, S') => (t, false, S')
   | (c', true, S') => if sz c' < mx s h / 2 then ((zhh s n S' t.1 t.2.1 (t.2.2.set (dn t.2.1 k) c') (dn t.2.1 k)).1, true, (zhh s n S' t.1 t.2.1 (t.2.2.set (dn t.2.1 k) c') (dn t.2.1 k)).2)
    else (zat t.1 t.2.1 (t.2.2.set (dn t.2.1 k) c'), true, S')
structure qlq (s : Sh) (n : Nat) (S : Nat → Bool) {h : Nat} (t : T h) (k : K) (r : T h × Bool × (Nat → Bool)) : Prop where
 is : r.2.1 = true ↔ k ∈ keys (ents t)
 no : r.2.1 = false → r.1 = t ∧ r.2.2 = S
 yes : r.2.1 = true → pg r.1 = pg t ∧ ents r.1 = zc1 (ents t) k ∧ Ord r.1 ∧ Wd s r.1 ∧ Below s r.1 ∧ sz r.1 ≤ sz t ∧ sz t ≤ sz r.1 + 1 ∧ ∀ L, Acc n S (pgs t ++ L) → Acc n r.2.2 (pgs r.1 ++ L)
theorem qla {α : Type} (l : List α) {j : Nat} (h : j + 1 < l.length) : l = l.take j ++ l[j] :: l[j + 1] :: l.drop (j + 2) := by
 conv => lhs; rw [← bE j l, bY (by omega : j < l.length), bY h]
theorem zno {α : Type} (l : List α) {j : Nat} (h : j < l.length) : l = l.take j ++ l[j] :: l.drop (j + 1) := by
 conv => lhs; rw [← bE j l, bY h]
theorem qi6 {A e B : E} {k : K} (hA : ze6 A k) (hB : zxm B k) : k ∈ keys (A ++ (e ++ B)) ↔ k ∈ keys e := by
 unfold keys
 rw [cD, cD, aS, aS]
 refine ⟨fun h => ?_, fun h => .inr (.inl h)⟩
 rcases h with h | h | h
 ·obtain ⟨p, hp, e⟩ := aT.1 h
  exact absurd e (zht (hA p hp))
 ·exact h
 ·obtain ⟨p, hp, e⟩ := aT.1 h
  exact absurd e.symm (zht (hB p hp))
theorem zlo (s : Sh) (n : Nat) (hn : 0 < n) (h2 : ∀ h, 2 ≤ mx s h) (h4 : 4 ≤ s.fan) (k : K) : ∀ {h : Nat} (t : T h) (S : Nat → Bool), Ord t → Wd s t → Below s t → sz t ≤ mx s h → (1 ≤ h → 2 ≤ sz t) → qlq s n S t k (zcy s n t k S)
 | 0, (p, es), S, hO, hW, hB, hm, _ => by
  have hO : Es es := hO
  have hr : zcy s n (zbj p es) k S = if fd (keys es) k then (zbj p (zc1 es k), true, S) else (zbj p es, false, S) := rfl
  show qlq s n S (zbj p es) k (zcy s n (zbj p es) k S)
  rw [hr]
  cases hf : fd (keys es) k with
  | false =>
   rw [if_neg bF]
   refine ⟨⟨fun h => (nomatch h), fun h => ?_⟩, fun _ => ⟨rfl, rfl⟩, fun h => (nomatch h)⟩
   rw [show fd (keys es) k = true from (qaa hO).2 h] at hf
   cases hf
  | true =>
   rw [if_pos rfl]
   have hk := (qaa hO).1 hf
   have hlen := zs7 hO hk
   refine ⟨⟨fun _ => hk, fun _ => rfl⟩, fun h => (nomatch h), fun _ => ⟨rfl, rfl, zxy hO, fun q hq => hW q (zs8 hq), trivial, ?_, ?_, fun L hA => hA⟩⟩
   ·show (zc1 es k).length ≤ es.length; omega
   ·show es.length ≤ (zc1 es k).length + 1; omega
 | h + 1, (p, ks, kids), S, hO, hW, hB, hm, h2k => by
  obtain ⟨o1, o2, o3⟩ : Ks ks ∧ Sep ks (kids.map ents) ∧ ∀ x ∈ kids, Ord x := hO
  obtain ⟨w1, w2⟩ : (∀ k ∈ ks, k.length = s.kw) ∧ ∀ x ∈ kids, Wd s x := hW
  have hB : ∀ x ∈ kids, mx s h / 2 ≤ sz x ∧ sz x ≤ mx s h ∧ Below s x := hB
  have h2k : 2 ≤ kids.length := h2k (dX _)
  have hl := o2.len
  rw [aG] at hl
  have hi : dn ks k < kids.length := by have := zn0 ks k; omega
  have hc : kids[dn ks k]? = some kids[dn ks k] := aB hi
  have hcm := aR hi
  have hh := h2 h
  have ih := zlo s n hn h2 h4 k kids[dn ks k] S (o3 _ hcm) (w2 _ hcm) (hB _ hcm).2.2 (hB _ hcm).2.1 (fun h1 => by
   have := (hB _ hcm).1
   cases h with
   | zero => omega
   | succ h => have e : mx s (h + 1) = s.fan := rfl; omega)
  obtain ⟨m1, m2⟩ := Sep.mid (kids := kids) o1 o2 k
  have hbd := o2.bd o1 (i := dn ks k) (by rw [aG]; exact hi)
  rw [cW] at hbd
  have hfl := zhr kids ents hi
  have hrem : zcy s n (zat p ks kids) k S = match zcy s n kids[dn ks k] k S with
   | (_, false, S') => (zat p ks kids, false, S')
   | (c', true, S') => if sz c' < mx s h / 2 then ((zhh s n S' p ks (kids.set (dn ks k) c') (dn ks k)).1, true, (zhh s n S' p ks (kids.set (dn ks k) c') (dn ks k)).2)
    else (zat p ks (kids.set (dn ks k) c'), true, S') := by
   simp only [zcy, zat, hc]
  show qlq s n S (zat p ks kids) k (zcy s n (zat p ks kids) k S)
  have hmem : k ∈ keys (ents (zat p ks kids)) ↔ k ∈ keys (ents kids[dn ks k]) := by
   show k ∈ keys (kids.flatMap ents) ↔ _
   rw [hfl]
   exact qi6 m1 m2
  rw [hrem]
  obtain ⟨⟨c', is, S'⟩, hr⟩ : ∃ r, zcy s n kids[dn ks k] k S = r := ⟨_, rfl⟩
  rw [hr] at ih ⊢
  cases is with
  | false =>
   obtain ⟨-, hS⟩ := ih.no rfl
   exact ⟨⟨fun h => (nomatch h), fun h => ih.is.2 (hmem.1 h)⟩, fun _ => ⟨rfl, hS⟩, fun h => (nomatch h)⟩
  | true =>
   obtain ⟨y1, y2, y3, y4, y5, y6, y7, y8⟩ := ih.yes rfl
   simp only at y1 y2 y3 y4 y5 y6 y7 y8 ⊢
   have hkk := hmem.2 (ih.is.1 rfl)
   have hcs := hB _ hcm
   have hbp : Bd ks (dn ks k) (ents c') := hbd.sub fun q hq => by rw [y2] at hq; exact zs8 hq
   have hents : (kids.set (dn ks k) c').flatMap ents = zc1 (kids.flatMap ents) k := by
    rw [qa3 _ _ hi, hfl, qij m1 m2, y2]
   have hsep : Sep ks ((kids.set (dn ks k) c').map ents) := by rw [map_set']; exact o2.set o1 _ hbp
   have hord : ∀ x ∈ kids.set (dn ks k) c', Ord x := fun x hx => by
    rcases cC hx with hx | rfl
    ·exact o3 x hx
    ·exact y3
   have hwd : ∀ x ∈ kids.set (dn ks k) c', Wd s x := fun x hx => by
    rcases cC hx with hx | rfl
    ·exact w2 x hx
    ·exact y4
   have hbl : ∀ x ∈ kids.set (dn ks k) c', Below s x := fun x hx => by
    rcases cC hx with hx | rfl
    ·exact (hB x hx).2.2
    ·exact y5
   have hacc : ∀ L, Acc n S (p :: kids.flatMap pgs ++ L) → Acc n S' (p :: (kids.set (dn ks k) c').flatMap pgs ++ L) := fun L hA => by
    have e1 : kids.flatMap pgs = (kids.take (dn ks k)).flatMap pgs ++ (pgs kids[dn ks k] ++ (kids.drop (dn ks k + 1)).flatMap pgs) := by
     conv => lhs; rw [zno kids hi]
     rw [bB, aW]
    have e2 : (kids.set (dn ks k) c').flatMap pgs = (kids.take (dn ks k)).flatMap pgs ++ (pgs c' ++ (kids.drop (dn ks k + 1)).flatMap pgs) := by
     conv => lhs; rw [zno (kids.set (dn ks k) c') (j := dn ks k) (by rw [bO]; exact hi)]
     rw [bB, aW, dC, eL oQ, dJ oQ]
    have key : ∀ Z : List Nat, (p :: ((kids.take (dn ks k)).flatMap pgs ++ (Z ++ (kids.drop (dn ks k + 1)).flatMap pgs)) ++ L).Perm (Z ++ (p :: ((kids.take (dn ks k)).flatMap pgs ++ (kids.drop (dn ks k + 1)).flatMap pgs) ++ L)) := fun Z => by
     rw [aE, aE]
     refine List.Perm.trans (.cons _ ?_) bJ.symm
     simp only [aH]
     exact bQ _ _ _
    rw [e1] at hA
    rw [e2]
    exact (y8 _ (hA.perm (key _))).perm (key _).symm
   by_cases hpoor : sz c' < mx s h / 2
   ·rw [if_pos hpoor]
    obtain ⟨kids', hk'⟩ : ∃ l, kids.set (dn ks k) c' = l := ⟨_, rfl⟩
    have hlen' : kids'.length = kids.length := by rw [← hk', bO]
    have hj : dn ks k - 1 + 1 < kids'.length := oQ
    have hjk : dn ks k - 1 < ks.length := oQ
    have e1 := qla kids' hj
    have e2 := zno ks hjk
    have hsz : ∀ m (hm : m < kids'.length), m ≠ dn ks k → mx s h / 2 ≤ sz kids'[m] ∧ sz kids'[m] ≤ mx s h := fun m hm hne => by
     have : kids'[m] = kids[m]'oQ := by subst hk'; rw [List.getElem_set_ne (Ne.symm hne)]
     rw [this]
     have := hB _ (aR (by omega : m < kids.length))
     exact ⟨this.1, this.2.1⟩
    have hat : kids'[dn ks k]'oQ = c' := by subst hk'; rw [dC]
    rw [hk'] at hents hsep hord hwd hbl hacc ⊢
    have hab : sz kids'[dn ks k - 1] + sz kids'[dn ks k - 1 + 1] ≤ mx s h + mx s h / 2 ∧ mx s h / 2 ≤ sz kids'[dn ks k - 1] + sz kids'[dn ks k - 1 + 1] := by
     rcases eS (dn ks k) with h0 | h0
     ·have a1 : kids'[dn ks k - 1]'oQ = c' := by rw [← hat]; congr 1; omega
      have a2 := hsz (dn ks k - 1 + 1) hj oQ
      rw [a1]; omega
     ·have a1 : kids'[dn ks k - 1 + 1]'oQ = c' := by rw [← hat]; congr 1; omega
      have a2 := hsz (dn ks k - 1) oQ oQ
      rw [a1]; omega
    have hXY : ∀ x ∈ kids'.take (dn ks k - 1) ++ kids'.drop (dn ks k - 1 + 2), mx s h / 2 ≤ sz x ∧ sz x ≤ mx s h := fun x hx => by
     rcases aS.1 hx with hx | hx
     ·obtain ⟨m, hm, rfl⟩ := bI hx
      rw [aO] at hm
      rw [dO]
      exact hsz m oQ oQ
     ·obtain ⟨m, hm, rfl⟩ := bI hx
      rw [aU] at hm
      rw [dH]
      exact hsz _ oQ oQ
    have hmend := qmo s n hn h2 S' p (P := ks.take (dn ks k - 1)) (R := ks.drop (dn ks k - 1 + 1)) (q0 := ks[dn ks k - 1]) (X := kids'.take (dn ks k - 1)) (Y := kids'.drop (dn ks k - 1 + 2)) (a := kids'[dn ks k - 1]) (b := kids'[dn ks k - 1 + 1]) (by rw [aO, aO]; omega) (by rw [← e2]; exact o1) (by rw [← e2, ← e1]; exact hsep) (by rw [← e1]; exact hord) (by rw [← e2]; exact w1) (by rw [← e1]; exact hwd) (by rw [← e1]; exact hbl) hXY hab.1 hab.2 (dn ks k) (by rw [aO]; omega)
    rw [← e1, ← e2] at hmend
    refine ⟨⟨fun _ => hkk, fun _ => rfl⟩, fun h => (nomatch h), fun _ => ⟨hmend.page, ?_, hmend.ord, hmend.wd, hmend.below, ?_, ?_, fun L hA => hmend.acc L (hacc L hA)⟩⟩
    ·show _ = zc1 (kids.flatMap ents) k
     rw [hmend.ents]; exact hents
    ·show sz (zhh s n S' p ks kids' (dn ks k)).1 ≤ kids.length
     have := hmend.le; omega
    ·show kids.length ≤ sz (zhh s n S' p ks kids' (dn ks k)).1 + 1
     have := hmend.ge; omega
   ·rw [if_neg hpoor]
    refine ⟨⟨fun _ => hkk, fun _ => rfl⟩, fun h => (nomatch h), fun _ => ⟨rfl, hents, ⟨o1, hsep, hord⟩, ⟨w1, hwd⟩, fun x hx => ?_, ?_, ?_, hacc⟩⟩
    ·rcases cC hx with hx | rfl
     ·exact hB x hx
     ·exact ⟨oQ, oQ, y5⟩
    ·show (kids.set (dn ks k) c').length ≤ kids.length
     rw [bO]; exact aX _
    ·show kids.length ≤ (kids.set (dn ks k) c').length + 1
     rw [bO]; exact Nat.le_succ _
/-! ### how many -/
def lv : {h : Nat} → T h → Nat
 | 0, _ => 1
 | _ + 1, t => (t.2.2.map lv).sum
theorem zlc {α β : Type} (l : List α) (f : α → List β) : (l.flatMap f).length = (l.map fun x => (f x).length).sum := by
 induction l with
 | nil => rfl
 | cons x l ih => rw [aW, aA, ih, bD, iY]
theorem zqa {α : Type} (l : List α) (f g : α → Nat) (c : Nat) (h : ∀ x ∈ l, f x + c ≤ g x) : (l.map f).sum + c * l.length ≤ (l.map g).sum := by
 induction l with
 | nil => simp
 | cons x l ih =>
  have h1 := h x (.head _)
  have h2 := ih fun y hy => h y (.tail _ hy)
  rw [bD, bD, iY, iY, aZ, Nat.mul_succ]
  omega
theorem zqb {α : Type} (l : List α) (f : α → Nat) (c : Nat) : (l.map fun x => c * f x).sum = c * (l.map f).sum := by
 induction l with
 | nil => simp
 | cons x l ih => rw [bD, bD, iY, iY, ih, fJ]
theorem few (s : Sh) (h4 : 4 ≤ s.fan / 2) : ∀ {h : Nat} (t : T h), Below s t → mx s h / 2 ≤ sz t → 3 * (pgs t).length + 1 ≤ 4 * lv t
 | 0, (_, _), _, _ => aX _
 | h + 1, (p, ks, kids), hB, hz => by
  have hB : ∀ x ∈ kids, mx s h / 2 ≤ sz x ∧ sz x ≤ mx s h ∧ Below s x := hB
  have hz : s.fan / 2 ≤ kids.length := hz
  show 3 * (p :: kids.flatMap pgs).length + 1 ≤ 4 * (kids.map lv).sum
  have := zqa kids (fun x => 3 * (pgs x).length) (fun x => 4 * lv x) 1 fun x hx => few s h4 x (hB x hx).2.2 (hB x hx).1
  rw [zqb, zqb, ← zlc] at this
  rw [aZ]
  omega
theorem qab (s : Sh) (h4 : 4 ≤ s.fan / 2) : ∀ {h : Nat} (t : T h), Below s t → (1 ≤ h → 2 ≤ sz t) → 3 * (pgs t).length ≤ 4 * lv t + 1
 | 0, (_, _), _, _ => by show 3 * 1 ≤ 4 * 1 + 1; decide
 | h + 1, (p, ks, kids), hB, hz => by
  have hB : ∀ x ∈ kids, mx s h / 2 ≤ sz x ∧ sz x ≤ mx s h ∧ Below s x := hB
  have hz : 2 ≤ kids.length := hz (dX _)
  show 3 * (p :: kids.flatMap pgs).length ≤ 4 * (kids.map lv).sum + 1
  have := zqa kids (fun x => 3 * (pgs x).length) (fun x => 4 * lv x) 1 fun x hx => few s h4 x (hB x hx).2.2 (hB x hx).1
  rw [zqb, zqb, ← zlc] at this
  rw [aZ]
  omega
theorem znc (s : Sh) : ∀ {h : Nat} (t : T h), Below s t → (h = 0 → s.cap / 2 ≤ sz t) → s.cap / 2 * lv t ≤ (ents t).length
 | 0, (p, es), _, hz => by
  show s.cap / 2 * 1 ≤ es.length
  rw [bK]; exact hz rfl
 | h + 1, (p, ks, kids), hB, _ => by
  have hB : ∀ x ∈ kids, mx s h / 2 ≤ sz x ∧ sz x ≤ mx s h ∧ Below s x := hB
  show s.cap / 2 * (kids.map lv).sum ≤ (kids.flatMap ents).length
  rw [zlc, ← zqb]
  have := zqa kids (fun x => s.cap / 2 * lv x) (fun x => (ents x).length) 0 fun x hx => znc s x (hB x hx).2.2 (fun h0 => by subst h0; exact (hB x hx).1)
  omega
theorem qrs (s : Sh) (h4 : 4 ≤ s.fan / 2) : ∀ {h : Nat} (t : T h), Below s t → (1 ≤ h → 2 ≤ sz t) → h + 1 ≤ lv t
 | 0, _, _, _ => aX _
 | h + 1, (p, ks, kids), hB, hz => by
  have hB : ∀ x ∈ kids, mx s h / 2 ≤ sz x ∧ sz x ≤ mx s h ∧ Below s x := hB
  have hz : 2 ≤ kids.length := hz (dX _)
  show h + 1 + 1 ≤ (kids.map lv).sum
  have := zqa kids (fun _ => 0) lv (h + 1) fun x hx => by
   have := qrs s h4 x (hB x hx).2.2 (fun h1 => by
    have := (hB x hx).1
    cases h with
    | zero => omega
    | succ h => have e : mx s (h + 1) = s.fan := rfl; omega)
   omega
  have h5 : (h + 1) * 2 ≤ (h + 1) * kids.length := fB _ hz
  omega
theorem zby : ∀ {h : Nat} (t : T h), pg t ∈ pgs t
 | 0, (_, _) => .head _
 | _ + 1, (_, _, _) => .head _
/-! ### at the root -/
abbrev Rt := Option (Σ h, T h)
def za2 : Rt → E
 | none => []
 | some ⟨_, t⟩ => ents t
def zj4 : Rt → List Nat
 | none => []
 | some ⟨_, t⟩ => pgs t
def zfj : Rt → Nat
 | none => 0
 | some ⟨_, t⟩ => pg t
structure TOk (s : Sh) {h : Nat} (t : T h) : Prop where
 ord : Ord t
 wd : Wd s t
 below : Below s t
 le : sz t ≤ mx s h
 one : 1 ≤ sz t
 two : 1 ≤ h → 2 ≤ sz t
def zxi (s : Sh) : Rt → Prop
 | none => True
 | some ⟨_, t⟩ => TOk s t
structure zuw (s : Sh) : Prop where
 kw : 1 ≤ s.kw
 cap : 2 ≤ s.cap
 fan : 8 ≤ s.fan
theorem zuw.h2 {s : Sh} (h : zuw s) : ∀ h, 2 ≤ mx s h
 | 0 => h.cap
 | _ + 1 => cL dQ h.fan
theorem zuw.h4 {s : Sh} (h : zuw s) : 4 ≤ s.fan / 2 := by have := h.fan; omega
def qd1 (s : Sh) (n : Nat) (k v : K) (S : Nat → Bool) : Rt → Rt × (Nat → Bool)
 | none => (some ⟨0, zbj (nw n S) [(k, v)]⟩, us S (nw n S) true)
 | some ⟨h, t⟩ => match zn2 s n t k v S with
  | (t', none, S') => (some ⟨h, t'⟩, S')
  | (t', some (q, d), S') => (some ⟨h + 1, zat (nw n S') [q] [t', d]⟩, us S' (nw n S') true)
def zgr : Rt → Nat
 | none => 0
 | some ⟨h, _⟩ => h
theorem qmy {s : Sh} (hs : zuw s) (n : Nat) (k v : K) (hk : k.length = s.kw) (hv : v.length = s.vw) (r : Rt) (S : Nat → Bool) (L : List Nat) (hr : zxi s r) (hA : Acc n S (zj4 r ++ L)) (hroom : (zj4 r ++ L).length + zgr r + 3 < n) :
  zxi s (qd1 s n k v S r).1 ∧ za2 (qd1 s n k v S r).1 = zfp (za2 r) k v ∧ Acc n (qd1 s n k v S r).2 (zj4 (qd1 s n k v S r).1 ++ L) := by
 match r with
 | none =>
  refine ⟨⟨dZ _ _, fun q hq => by rw [aL.1 hq]; exact ⟨hk, hv⟩, trivial, ?_, aX _, fun h => oQ⟩, rfl, ?_⟩
  ·show 1 ≤ s.cap
   have := hs.cap; omega
  ·have hA : Acc n S L := hA
   have hroom : L.length + 0 + 3 < n := hroom
   exact hA.add oQ
 | some ⟨h, t⟩ =>
  have hr : TOk s t := hr
  obtain ⟨hp, hmin⟩ := zsc s n hs.h2 k v hk hv t S hr.ord hr.wd hr.below hr.le
  obtain ⟨N, f1, f2, f3⟩ := qa0 s n k v t S (fun _ => trivial)
  have hroom : (pgs t ++ L).length + h + 3 < n := hroom
  have hA : Acc n S (pgs t ++ L) := hA
  have hA2 := f3 (pgs t ++ L) oQ hA
  have hput : qd1 s n k v S (some ⟨h, t⟩) = match zn2 s n t k v S with
   | (t', none, S') => (some ⟨h, t'⟩, S')
   | (t', some (q, d), S') => (some ⟨h + 1, zat (nw n S') [q] [t', d]⟩, us S' (nw n S') true) := rfl
  rw [hput]
  obtain ⟨⟨t', g, S'⟩, hq⟩ : ∃ r, zn2 s n t k v S = r := ⟨_, rfl⟩
  rw [hq] at hp hmin f2 f3 hA2 ⊢
  cases g with
  | none =>
   obtain ⟨a1, a2, a3, a4, a5⟩ := hp.none rfl
   have hm : sz t ≤ sz t' := hmin rfl
   have f2 : (pgs t' ++ []).Perm (N ++ pgs t) := f2
   rw [bA] at f2
   exact ⟨⟨a2, a3, a5, a4, cL hr.one hm, fun h1 => cL (hr.two h1) hm⟩, a1, hA2.perm (by rw [← aH]; exact cY L f2.symm)⟩
  | some g =>
   obtain ⟨q, d⟩ := g
   obtain ⟨e1, e2, e3, e4, e5, e6, e7, e8, e9, e10, e11, e12, e13, e14⟩ := hp.some q d rfl
   have f2 : (pgs t' ++ pgs d).Perm (N ++ pgs t) := f2
   have hA3 : Acc n S' (N ++ (pgs t ++ L)) := hA2
   refine ⟨⟨⟨dZ _ _, ⟨e7, fun e he => (aL.1 he) ▸ e8, trivial⟩, fun x hx => ?_⟩, ⟨fun x hx => (aL.1 hx) ▸ e6, fun x hx => ?_⟩, fun x hx => ?_, ?_, by show 1 ≤ 2; decide, fun _ => by show 2 ≤ 2; decide⟩, ?_, ?_⟩
   ·rcases aJ.1 hx with rfl | hx
    ·exact e2
    ·exact (aL.1 hx) ▸ e3
   ·rcases aJ.1 hx with rfl | hx
    ·exact e4
    ·exact (aL.1 hx) ▸ e5
   ·rcases aJ.1 hx with rfl | hx
    ·exact ⟨e9, e10, e13⟩
    ·exact (aL.1 hx) ▸ ⟨e11, e12, e14⟩
   ·show 2 ≤ s.fan
    have := hs.fan; omega
   ·show [t', d].flatMap ents = zfp (ents t) k v
    rw [← e1]; simp
   ·have hA4 := hA3.add (by rw [aA]; omega)
    refine hA4.perm ?_
    show (nw n S' :: (N ++ (pgs t ++ L))).Perm ((nw n S' :: [t', d].flatMap pgs) ++ L)
    refine .cons _ ?_
    simp only [aW, iT, bA]
    rw [← aH]
    exact cY L f2.symm
def zf6 : {h : Nat} → T h → Option Rt
 | 0, t => if t.2.length = 0 then some none else none
 | h + 1, t => match t.2.2 with
  | [x] => some (some ⟨h, x⟩)
  | _ => none
def zxf (s : Sh) (n : Nat) (k : K) (S : Nat → Bool) : Rt → Rt × Bool × (Nat → Bool)
 | none => (none, false, S)
 | some ⟨h, t⟩ => match zcy s n t k S with
  | (_, false, S') => (some ⟨h, t⟩, false, S')
  | (t', true, S') => match zf6 t' with
   | some r => (r, true, us S' (pg t) false)
   | none => (some ⟨h, t'⟩, true, S')
theorem ql3 {s : Sh} (hs : zuw s) (n : Nat) (hn : 0 < n) (k : K) (r : Rt) (S : Nat → Bool) (L : List Nat) (hr : zxi s r) (hA : Acc n S (zj4 r ++ L)) :
  zxi s (zxf s n k S r).1 ∧ ((zxf s n k S r).2.1 = true ↔ k ∈ keys (za2 r)) ∧ za2 (zxf s n k S r).1 = zc1 (za2 r) k ∧ Acc n (zxf s n k S r).2.2 (zj4 (zxf s n k S r).1 ++ L) := by
 match r with
 | none => exact ⟨trivial, ⟨fun h => (nomatch h), fun h => (nomatch h)⟩, rfl, hA⟩
 | some ⟨h, t⟩ =>
  have hr : TOk s t := hr
  have hrem := zlo s n hn hs.h2 (by have := hs.fan; omega) k t S hr.ord hr.wd hr.below hr.le hr.two
  have hA : Acc n S (pgs t ++ L) := hA
  have hdel : zxf s n k S (some ⟨h, t⟩) = match zcy s n t k S with
   | (_, false, S') => (some ⟨h, t⟩, false, S')
   | (t', true, S') => match zf6 t' with
    | some r => (r, true, us S' (pg t) false)
    | none => (some ⟨h, t'⟩, true, S') := rfl
  rw [hdel]
  obtain ⟨⟨t', is, S'⟩, hq⟩ : ∃ r, zcy s n t k S = r := ⟨_, rfl⟩
  rw [hq] at hrem ⊢
  cases is with
  | false =>
   obtain ⟨-, hS⟩ := hrem.no rfl
   have hS : S' = S := hS
   have hno : k ∉ keys (ents t) := fun hk => by have := hrem.is.2 hk; cases this
   refine ⟨hr, hrem.is, ?_, by show Acc n S' (pgs t ++ L); rw [hS]; exact hA⟩
   show ents t = zc1 (ents t) k
   unfold zc1
   rw [cX.2 fun p hp => by
    have : p.1 ≠ k := fun e => hno (aT.2 ⟨p, hp, e⟩)
    simpa using this]
  | true =>
   obtain ⟨y1, y2, y3, y4, y5, y6, y7, y8⟩ := hrem.yes rfl
   simp only at y1 y2 y3 y4 y5 y6 y7 y8
   have hA2 := y8 L hA
   have his : True ↔ k ∈ keys (ents t) := by have := hrem.is; simpa using this
   cases h with
   | zero =>
    obtain ⟨p', es'⟩ := t'
    by_cases h0 : es'.length = 0
    ·have e0 : es' = [] := bM h0
     subst e0
     have hsh : zf6 (h := 0) (p', []) = some none := rfl
     simp only [hsh]
     have y1 : p' = pg t := y1
     have y2 : ([] : E) = zc1 (ents t) k := y2
     refine ⟨trivial, ⟨fun _ => his.1 trivial, fun _ => trivial⟩, y2, ?_⟩
     show Acc n (us S' (pg t) false) L
     rw [← y1]
     exact Acc.del (show Acc n S' (p' :: L) from hA2)
    ·have hsh : zf6 (h := 0) (p', es') = none := if_neg h0
     simp only [hsh]
     exact ⟨⟨y3, y4, y5, cL y6 hr.le, Nat.pos_of_ne_zero h0, fun h => oQ⟩, ⟨fun _ => his.1 trivial, fun _ => trivial⟩, y2, hA2⟩
   | succ h =>
    obtain ⟨p', ks', kids'⟩ := t'
    have h2k := hr.two (dX _)
    have y7 : sz t ≤ kids'.length + 1 := y7
    have y1 : p' = pg t := y1
    match kids', y7, y2, y3, y4, y5, y6, hA2 with
    | [], y7, _, _, _, _, _, _ => simp at y7; omega
    | [x], y7, y2, y3, y4, y5, y6, hA2 =>
     have hsh : zf6 (h := h + 1) (p', ks', [x]) = some (some ⟨h, x⟩) := rfl
     simp only [hsh]
     have y5 : ∀ z ∈ [x], mx s h / 2 ≤ sz z ∧ sz z ≤ mx s h ∧ Below s z := y5
     obtain ⟨b1, b2, b3⟩ := y5 x (.head _)
     have hh := hs.h2 h
     have y2 : [x].flatMap ents = zc1 (ents t) k := y2
     refine ⟨⟨y3.2.2 x (.head _), y4.2 x (.head _), b3, b2, oQ, fun h1 => ?_⟩, ⟨fun _ => his.1 trivial, fun _ => trivial⟩, ?_, ?_⟩
     ·cases h with
      | zero => omega
      | succ h => have e : mx s (h + 1) = s.fan := rfl; have := hs.fan; omega
     ·show ents x = zc1 (ents t) k
      rw [← y2]; simp
     ·show Acc n (us S' (pg t) false) (pgs x ++ L)
      rw [← y1]
      refine Acc.del (q := p') ?_
      have : Acc n S' (p' :: ([x].flatMap pgs ++ L)) := hA2
      simpa using this
    | x :: z :: l, y7, y2, y3, y4, y5, y6, hA2 =>
     have hsh : zf6 (h := h + 1) (p', ks', x :: z :: l) = none := rfl
     simp only [hsh]
     refine ⟨⟨y3, y4, y5, cL y6 hr.le, by show 1 ≤ (x :: z :: l).length; simp, fun _ => by show 2 ≤ (x :: z :: l).length; simp⟩, ⟨fun _ => his.1 trivial, fun _ => trivial⟩, y2, hA2⟩
theorem qpf : ∀ {h : Nat} (t : T h), lv t ≤ (pgs t).length
 | 0, (_, _) => aX _
 | h + 1, (p, ks, kids) => by
  show (kids.map lv).sum ≤ (p :: kids.flatMap pgs).length
  rw [aZ, zlc]
  have := zqa kids lv (fun x => (pgs x).length) 0 fun x _ => qpf x
  omega
theorem zwe {s : Sh} (hs : zuw s) (r : Rt) (hr : zxi s r) : 3 * (zj4 r).length ≤ 4 * ((za2 r).length / (s.cap / 2)) + 1 + (if (zj4 r).length = 1 then 3 else 0) ∧ zgr r + 1 ≤ (zj4 r).length + 1 ∧ (1 < (zj4 r).length → 2 * (s.cap / 2) ≤ (za2 r).length) := by
 have hc : 0 < s.cap / 2 := by have := hs.cap; omega
 match r with
 | none => exact ⟨by simp [zj4], by simp [zgr, zj4], fun h => by simp [zj4] at h⟩
 | some ⟨h, t⟩ =>
  have hr : TOk s t := hr
  have f1 := qab s hs.h4 t hr.below hr.two
  have f2 := qrs s hs.h4 t hr.below hr.two
  have hlv := qpf t
  show 3 * (pgs t).length ≤ 4 * ((ents t).length / (s.cap / 2)) + 1 + (if (pgs t).length = 1 then 3 else 0) ∧ h + 1 ≤ (pgs t).length + 1 ∧ (1 < (pgs t).length → 2 * (s.cap / 2) ≤ (ents t).length)
  cases h with
  | zero =>
   obtain ⟨p, es⟩ := t
   have : (pgs (h := 0) (p, es)).length = 1 := rfl
   rw [this]
   exact ⟨by simp, dQ, fun h => oQ⟩
  | succ h =>
   have f3 := znc s t hr.below (fun h => oQ)
   have f4 : lv t ≤ (ents t).length / (s.cap / 2) := (Nat.le_div_iff_mul_le hc).2 (by rw [Nat.mul_comm]; exact f3)
   refine ⟨oQ, oQ, fun _ => ?_⟩
   have : s.cap / 2 * 2 ≤ s.cap / 2 * lv t := fB _ oQ
   omega
/-! ### rows by places -/
theorem zmn {p : K × K} {r : E} {k : K} (h : kl p.1 k) : lb (keys (p :: r)) k = lb (keys r) k + 1 := by simp [lb, keys, h]
theorem zmm {p : K × K} {r : E} {k : K} (h : ¬ kl p.1 k) : lb (keys (p :: r)) k = 0 := by simp [lb, keys, h]
theorem zx2 {p : K × K} {r : E} (h : Es (p :: r)) : (∀ q ∈ r, kl p.1 q.1) ∧ Es r := by
 obtain ⟨h1, h2⟩ : (∀ a ∈ r.map (·.1), kl p.1 a) ∧ Es r := bL.1 h
 exact ⟨fun q hq => h1 _ (aT.2 ⟨q, hq, rfl⟩), h2⟩
theorem znm : ∀ {e : E} {k : K}, Es e → (fd (keys e) k = true → ∃ v, e[lb (keys e) k]? = some (k, v) ∧ zld e k = some v ∧ (∀ w, zfp e k w = e.set (lb (keys e) k) (k, w)) ∧ zc1 e k = e.eraseIdx (lb (keys e) k)) ∧
  (fd (keys e) k = false → zld e k = none ∧ (∀ w, zfp e k w = ins e (lb (keys e) k) (k, w)) ∧ zc1 e k = e)
 | [], k, _ => ⟨fun h => by simp [fd, keys, lb] at h, fun _ => ⟨rfl, fun _ => rfl, rfl⟩⟩
 | p :: r, k, h => by
  obtain ⟨h1, h2⟩ := zx2 h
  obtain ⟨i1, i2⟩ := znm (e := r) (k := k) h2
  by_cases hlt : kl p.1 k
  ·have hl := zmn (r := r) hlt
   have hf : fd (keys (p :: r)) k = fd (keys r) k := by
    unfold fd
    rw [hl]
    rfl
   have hne : p.1 ≠ k := zht hlt
   have hg : zld (p :: r) k = zld r k := by
    unfold zld
    rw [iJ (by simpa using hne)]
   have hp : ∀ w, zfp (p :: r) k w = p :: zfp r k w := fun w => by
    show (if k = p.1 then _ else if kl k p.1 then _ else _) = _
    rw [if_neg hne.symm, if_neg (zey hlt)]
   have hd : zc1 (p :: r) k = p :: zc1 r k := by
    unfold zc1
    rw [eT (by simpa using hne)]
   rw [hf, hl, hg, hd]
   refine ⟨fun hfd => ?_, fun hfd => ?_⟩
   ·obtain ⟨v, a1, a2, a3, a4⟩ := i1 hfd
    exact ⟨v, a1, a2, fun w => by rw [hp, a3]; rfl, by rw [a4]; rfl⟩
   ·obtain ⟨a1, a2, a3⟩ := i2 hfd
    exact ⟨a1, fun w => by rw [hp, a2]; rfl, by rw [a3]⟩
  ·have hl := zmm (r := r) hlt
   by_cases he : p.1 = k
   ·have hf : fd (keys (p :: r)) k = true := by
     rw [ziw, hl]
     show some p.1 = some k
     rw [he]
    rw [hf, hl]
    refine ⟨fun _ => ⟨p.2, ?_, ?_, fun w => ?_, ?_⟩, fun h => (nomatch h)⟩
    ·show some p = some (k, p.2)
     rw [← he]
    ·unfold zld
     rw [gI (by simpa using he)]
     rfl
    ·show (if k = p.1 then _ else _) = _
     rw [if_pos he.symm]; rfl
    ·show zc1 (p :: r) k = r
     unfold zc1
     rw [dY (by simpa using he), cX.2 fun q hq => by
      have := zht (h1 q hq)
      rw [he] at this
      simpa using this.symm]
   ·have hf : fd (keys (p :: r)) k = false := by
     cases hfd : fd (keys (p :: r)) k with
     | false => rfl
     | true =>
      have := ziw.1 hfd
      rw [hl] at this
      exact absurd (cJ this) he
    have hgt : kl k p.1 := qo8 hlt he
    rw [hf, hl]
    refine ⟨fun h => (nomatch h), fun _ => ⟨?_, fun w => ?_, ?_⟩⟩
    ·unfold zld
     rw [dP.2 fun q hq => by
      rcases aJ.1 hq with rfl | hq
      ·simpa using he
      ·simpa using (zht (zb1 hgt (h1 q hq))).symm]
     rfl
    ·show (if k = p.1 then _ else if kl k p.1 then _ else _) = _
     rw [if_neg (Ne.symm he), if_pos hgt]; rfl
    ·unfold zc1
     refine cX.2 fun q hq => ?_
     rcases aJ.1 hq with rfl | hq
     ·simpa using he
     ·simpa using (zht (zb1 hgt (h1 q hq))).symm
theorem qjv {e : E} {k v : K} (h : Es e) : zfp e k v = ins (zc1 e k) (lb (keys (zc1 e k)) k) (k, v) := by
 have h' : Es (zc1 e k) := zxy h
 have hno : fd (keys (zc1 e k)) k = false := by
  cases hf : fd (keys (zc1 e k)) k with
  | false => rfl
  | true =>
   have := (qaa h').1 hf
   obtain ⟨p, hp, he⟩ := aT.1 this
   have := (eG.1 hp).2
   simp [he] at this
 rw [← ((znm h').2 hno).2.1]
 clear hno h'
 induction e with
 | nil => rfl
 | cons p r ih =>
  obtain ⟨h1, h2⟩ := zx2 h
  by_cases he : k = p.1
  ·have hd : zc1 (p :: r) k = r := by
    unfold zc1
    rw [dY (by simpa using he.symm), cX.2 fun q hq => by
     have := zht (h1 q hq)
     rw [← he] at this
     simpa using this.symm]
   have hg : zfp r k v = (k, v) :: r := qgs (fun q hq => by rw [he]; exact h1 q hq)
   rw [hd, hg]
   show (if k = p.1 then (k, v) :: r else _) = (k, v) :: r
   rw [if_pos he]
  ·have hd : zc1 (p :: r) k = p :: zc1 r k := by
    unfold zc1
    rw [eT (by simpa using Ne.symm he)]
   rw [hd]
   show (if k = p.1 then _ else if kl k p.1 then (k, v) :: p :: r else p :: zfp r k v) = (if k = p.1 then _ else if kl k p.1 then (k, v) :: p :: zc1 r k else p :: zfp (zc1 r k) k v)
   rw [if_neg he, if_neg he, ih h2]
   by_cases hlt : kl k p.1
   ·rw [if_pos hlt, if_pos hlt]
    have : zc1 r k = r := by
     unfold zc1
     exact cX.2 fun q hq => by simpa using (zht (zb1 hlt (h1 q hq))).symm
    rw [this]
   ·rw [if_neg hlt, if_neg hlt]
/-! ### Get -/
def ziy : {h : Nat} → T h → K → E
 | 0, t, _ => t.2
 | _ + 1, t, k => match t.2.2[dn t.2.1 k]? with
  | none => []
  | some c => ziy c k
theorem ztw : ∀ {h : Nat} (t : T h) (k : K), Ord t → Es (ziy t k) ∧ zld (ziy t k) k = zld (ents t) k
 | 0, (_, _), _, hO => ⟨hO, rfl⟩
 | h + 1, (p, ks, kids), k, hO => by
  obtain ⟨o1, o2, o3⟩ : Ks ks ∧ Sep ks (kids.map ents) ∧ ∀ x ∈ kids, Ord x := hO
  have hl := o2.len
  rw [aG] at hl
  have hi : dn ks k < kids.length := by have := zn0 ks k; omega
  have hc : kids[dn ks k]? = some kids[dn ks k] := aB hi
  obtain ⟨i1, i2⟩ := ztw kids[dn ks k] k (o3 _ (aR hi))
  obtain ⟨m1, m2⟩ := Sep.mid (kids := kids) o1 o2 k
  have he : ziy (zat p ks kids) k = ziy kids[dn ks k] k := by simp only [ziy, zat, hc]
  show Es (ziy (zat p ks kids) k) ∧ zld (ziy (zat p ks kids) k) k = zld (kids.flatMap ents) k
  rw [he, zhr kids ents hi, qis m1 m2]
  exact ⟨i1, i2⟩
/-! ### all from a key on -/
def qlu : {h : Nat} → T h → K → E
 | 0, t, f => t.2.drop (lb (keys t.2) f)
 | _ + 1, t, f => (t.2.2.drop (dn t.2.1 f)).flatMap fun x => qlu x f
def geE (e : E) (f : K) : E := e.filter fun p => decide (¬ kl p.1 f)
theorem qey : ∀ {e : E} {f : K}, Es e → e.drop (lb (keys e) f) = geE e f
 | [], _, _ => rfl
 | p :: r, f, h => by
  obtain ⟨h1, h2⟩ := zx2 h
  unfold geE
  by_cases hlt : kl p.1 f
  ·rw [zmn hlt, List.drop_succ_cons, qey h2, dY (by simpa using hlt)]
   rfl
  ·rw [zmm hlt, List.drop_zero]
   symm
   refine cX.2 fun q hq => ?_
   rcases aJ.1 hq with rfl | hq
   ·simpa using hlt
   ·simpa using fun h => hlt (zb1 (h1 q hq) h)
theorem qec : ∀ {h : Nat} (t : T h) (f : K), Ord t → qlu t f = geE (ents t) f
 | 0, (_, es), f, hO => qey (e := es) hO
 | h + 1, (p, ks, kids), f, hO => by
  obtain ⟨o1, o2, o3⟩ : Ks ks ∧ Sep ks (kids.map ents) ∧ ∀ x ∈ kids, Ord x := hO
  have hl := o2.len
  rw [aG] at hl
  have hi : dn ks f < kids.length := by have := zn0 ks f; omega
  obtain ⟨m1, m2⟩ := Sep.mid (kids := kids) o1 o2 f
  show (kids.drop (dn ks f)).flatMap (fun x => qlu x f) = geE (kids.flatMap ents) f
  rw [zhr kids ents hi, bY hi, aW, qec kids[dn ks f] f (o3 _ (aR hi))]
  have f1 : ((kids.take (dn ks f)).flatMap ents).filter (fun p => decide (¬ kl p.1 f)) = [] := List.filter_eq_nil_iff.2 fun q hq => by simpa using m1 q hq
  have f2 : ((kids.drop (dn ks f + 1)).flatMap ents).filter (fun p => decide (¬ kl p.1 f)) = (kids.drop (dn ks f + 1)).flatMap ents := cX.2 fun q hq => by simpa using zey (m2 q hq)
  unfold geE
  rw [gH, gH, f1, f2, aI]
  congr 1
  have : ∀ l : List (T h), (∀ x ∈ l, Ord x) → (∀ q ∈ l.flatMap ents, kl f q.1) → l.flatMap (fun x => qlu x f) = l.flatMap ents := fun l hO' hg => by
   induction l with
   | nil => rfl
   | cons x l ih =>
    rw [aW, aW, ih (fun y hy => hO' y (.tail _ hy)) fun q hq => hg q (by rw [aW]; exact aP _ hq), qec x f (hO' x (.head _))]
    unfold geE
    rw [cX.2 fun q hq => by simpa using zey (hg q (by rw [aW]; exact aK _ hq))]
  exact this _ (fun x hx => o3 x (bZ hx)) m2
theorem ql8 (e : E) (k : K) (also : Bool) : (geE e k).find? (fun p => decide (p.1 ≠ k) || also) = zim e k also := by
 unfold geE zim
 rw [List.find?_filter]
 congr 1
 funext p
 rcases zlg p.1 k with h | h | h
 ·simp [h, zey h, zht h]
 ·have h1 : ¬ kl p.1 k := by rw [h]; exact zdw _
  have h2 : ¬ kl k p.1 := by rw [h]; exact zdw _
  simp [h, zdw k]
 ·simp [h, zey h, (zht h).symm]
end Go.Eng.Tr
namespace Go.Eng.Tr
open Go.Proofs.YtkkfifhaobjicaaGreatDoor
set_option maxRecDepth 100000
structure Nd where
 leaf : Bool
 keys : List K
 vals : List K
 kids : List Nat
structure zf1 (s : Sh) (n : Nd) : Prop where
 sorted : Ks n.keys
 wide : ∀ k ∈ n.keys, k.length = s.kw
 leaf : n.leaf = true → n.kids = [] ∧ n.keys.length = n.vals.length ∧ (∀ v ∈ n.vals, v.length = s.vw) ∧ n.keys.length ≤ s.cap
 inner : n.leaf = false → (∀ k ∈ n.kids, 1 ≤ k ∧ k < 1024) ∧ n.vals = [] ∧ n.kids.length = n.keys.length + 1 ∧ 1 ≤ n.keys.length ∧ n.kids.length ≤ s.fan
def qdu (n : Nd) : Bys := if n.leaf then (n.keys.zip n.vals).flatMap fun p => p.1 ++ p.2 else n.keys.flatMap id
def zny (n : Nd) : Bys := beN 1 (if n.leaf then 1 else 2) ++ (beN 1 0 ++ (beN 2 n.keys.length ++ (n.kids.flatMap (beN 2) ++ qdu n)))
def zcd (n : Nd) : Bys := zny n ++ List.replicate (512 - (zny n).length) 0
theorem zjm {α : Type} (l : List α) (f : α → Bys) (c : Nat) (h : ∀ x ∈ l, (f x).length = c) : (l.flatMap f).length = l.length * c := by
 induction l with
 | nil => simp
 | cons x l ih => rw [aW, aA, h x (.head _), ih fun y hy => h y (.tail _ hy), aZ, Nat.succ_mul]; omega
theorem zz5 {s : Sh} {n : Nd} (h : zf1 s n) : (zny n).length = if n.leaf then 4 + n.keys.length * (s.kw + s.vw) else 4 + n.kids.length * 2 + n.keys.length * s.kw := by
 unfold zny qdu
 simp only [aA, zam]
 rw [zjm n.kids (beN 2) 2 fun x _ => zam 2 x]
 cases hl : n.leaf with
 | true =>
  obtain ⟨h1, h2, h3, h4⟩ := h.leaf hl
  rw [if_pos rfl, if_pos rfl, h1, zjm _ _ (s.kw + s.vw) fun p hp => by
   obtain ⟨q1, q2⟩ := iA hp
   rw [aA, h.wide _ q1, h3 _ q2], jF, ← h2, kK]
  simp; omega
 | false =>
  rw [if_neg bF, if_neg bF, zjm n.keys id s.kw fun k hk => h.wide k hk]
  omega
theorem zxq {s : Sh} (hs : 1 ≤ s.kw) {n : Nd} (h : zf1 s n) : (zny n).length ≤ 512 := by
 rw [zz5 h]
 cases hl : n.leaf with
 | true =>
  obtain ⟨-, -, -, h4⟩ := h.leaf hl
  rw [if_pos rfl]
  have : n.keys.length * (s.kw + s.vw) ≤ s.cap * (s.kw + s.vw) := eV _ h4
  have h5 : s.cap * (s.kw + s.vw) ≤ 508 := Nat.div_mul_le_self 508 (s.kw + s.vw)
  omega
 | false =>
  obtain ⟨-, -, h3, h4, h5⟩ := h.inner hl
  rw [if_neg bF]
  have h6 : s.fan * (s.kw + 2) ≤ 508 + s.kw := Nat.div_mul_le_self (508 + s.kw) (s.kw + 2)
  have h7 : n.kids.length * (s.kw + 2) ≤ s.fan * (s.kw + 2) := eV _ h5
  have h8 : n.kids.length * (s.kw + 2) = n.kids.length * s.kw + n.kids.length * 2 := fJ _ _ _
  have h9 : n.kids.length * s.kw = n.keys.length * s.kw + s.kw := by rw [h3, Nat.succ_mul]
  omega
theorem zv5 {s : Sh} (hs : 1 ≤ s.kw) {n : Nd} (h : zf1 s n) : (zcd n).length = 512 := by
 have := zxq hs h
 unfold zcd
 rw [aA, bV]
 omega
/-! ### a page is read -/
def kidsF : Nat → Opn → List Nat × Opn
 | 0, st => ([], st)
 | m + 1, st => if st.2 then ([], st) else ((opN 2 st).1 :: (kidsF m (opN 2 st).2).1, (kidsF m (opN 2 st).2).2)
def qdw (s : Sh) (leaf : Bool) (st : Opn) : K × K × Opn := ((opT s.kw st).1, if leaf then (opT s.vw (opT s.kw st).2).1 else [], if leaf then (opT s.vw (opT s.kw st).2).2 else (opT s.kw st).2)
def zer (s : Sh) (leaf : Bool) : Nat → Opn → List K × List K × Opn
 | 0, st => ([], [], st)
 | m + 1, st => if st.2 then ([], [], st) else
  ((qdw s leaf st).1 :: (zer s leaf m (qdw s leaf st).2.2).1, if leaf then (qdw s leaf st).2.1 :: (zer s leaf m (qdw s leaf st).2.2).2.1 else [], (zer s leaf m (qdw s leaf st).2.2).2.2)
def hdF (b : Bys) : Bool × Nat × Opn := (decide ((opN 1 (b, false)).1 = 1), (opN 2 (opN 1 (opN 1 (b, false)).2).2).1, (opN 2 (opN 1 (opN 1 (b, false)).2).2).2)
def znh (s : Sh) (b : Bys) : Nd × Opn :=
 let kf := if (hdF b).1 then ([], (hdF b).2.2) else kidsF ((hdF b).2.1 + 1) (hdF b).2.2
 (⟨(hdF b).1, (zer s (hdF b).1 (hdF b).2.1 kf.2).1, (zer s (hdF b).1 (hdF b).2.1 kf.2).2.1, kf.1⟩, (zer s (hdF b).1 (hdF b).2.1 kf.2).2.2)
theorem qfs : ∀ (l : List Nat) (r : Bys), (∀ k ∈ l, k < 65536) → kidsF l.length (l.flatMap (beN 2) ++ r, false) = (l, (r, false))
 | [], _, _ => rfl
 | k :: l, r, h => by
  have e : opN 2 ((k :: l).flatMap (beN 2) ++ r, false) = (k, (l.flatMap (beN 2) ++ r, false)) := by
   rw [aW, aH]
   exact zik (h k (.head _)) _
  rw [aZ, kidsF, if_neg bF, e, qfs l r fun x hx => h x (.tail _ hx)]
theorem zvx (s : Sh) : ∀ (l : E) (r : Bys), (∀ p ∈ l, p.1.length = s.kw ∧ p.2.length = s.vw) → zer s true l.length (l.flatMap (fun p => p.1 ++ p.2) ++ r, false) = (l.map (·.1), l.map (·.2), (r, false))
 | [], _, _ => rfl
 | p :: l, r, h => by
  obtain ⟨h1, h2⟩ := h p (.head _)
  have e : qdw s true ((p :: l).flatMap (fun p => p.1 ++ p.2) ++ r, false) = (p.1, p.2, (l.flatMap (fun p => p.1 ++ p.2) ++ r, false)) := by
   unfold qdw
   rw [aW, aH, aH, ← h1, zpl, ← h2, zpl]
   rfl
  rw [aZ, zer, if_neg bF, e, zvx s l r fun x hx => h x (.tail _ hx)]
  rfl
theorem zrv (s : Sh) : ∀ (l : List K) (r : Bys), (∀ k ∈ l, k.length = s.kw) → zer s false l.length (l.flatMap id ++ r, false) = (l, [], (r, false))
 | [], _, _ => rfl
 | k :: l, r, h => by
  have h1 := h k (.head _)
  have e : qdw s false ((k :: l).flatMap id ++ r, false) = (k, [], (l.flatMap id ++ r, false)) := by
   unfold qdw
   rw [aW, aH, ← h1]
   have := zpl k (l.flatMap id ++ r)
   simp only [id_eq]
   rw [this]
   rfl
  rw [aZ, zer, if_neg bF, e, zrv s l r fun x hx => h x (.tail _ hx)]
  rfl
theorem qkk {a b : List K} (h : a.length = b.length) : (a.zip b).map (·.1) = a ∧ (a.zip b).map (·.2) = b := by
 refine ⟨?_, ?_⟩
 ·have := List.map_fst_zip (l₁ := a) (l₂ := b) oQ
  exact this
 ·have := List.map_snd_zip (l₁ := a) (l₂ := b) oQ
  exact this
theorem qjq {s : Sh} (hs : 1 ≤ s.kw) {n : Nd} (h : zf1 s n) : znh s (zcd n) = (n, (List.replicate (512 - (zny n).length) 0, false)) := by
 have hle := zxq hs h
 have hlen := zz5 h
 generalize hz : List.replicate (512 - (zny n).length) (0 : UInt8) = z
 have hkl : n.keys.length < 65536 := by
  cases hl : n.leaf with
  | true =>
   rw [hl, if_pos rfl] at hlen
   have : n.keys.length * 1 ≤ n.keys.length * (s.kw + s.vw) := fB _ oQ
   omega
  | false =>
   rw [hl, if_neg bF] at hlen
   have : n.keys.length * 1 ≤ n.keys.length * s.kw := fB _ hs
   omega
 have e1 : opN 1 (zcd n, false) = (if n.leaf then 1 else 2, (beN 1 0 ++ (beN 2 n.keys.length ++ (n.kids.flatMap (beN 2) ++ (qdu n ++ z))), false)) := by
  unfold zcd
  rw [hz]
  unfold zny
  simp only [aH]
  exact zik (by split <;> decide) _
 have e2 : opN 1 (beN 1 0 ++ (beN 2 n.keys.length ++ (n.kids.flatMap (beN 2) ++ (qdu n ++ z))), false) = (0, (beN 2 n.keys.length ++ (n.kids.flatMap (beN 2) ++ (qdu n ++ z)), false)) := zik dQ _
 have e3 : opN 2 (beN 2 n.keys.length ++ (n.kids.flatMap (beN 2) ++ (qdu n ++ z)), false) = (n.keys.length, (n.kids.flatMap (beN 2) ++ (qdu n ++ z), false)) := zik oQ _
 have eh : hdF (zcd n) = (n.leaf, n.keys.length, (n.kids.flatMap (beN 2) ++ (qdu n ++ z), false)) := by
  unfold hdF
  rw [e1]
  simp only
  rw [e2]
  simp only
  rw [e3]
  cases n.leaf <;> rfl
 unfold znh
 rw [eh]
 obtain ⟨leaf, keys, vals, kids⟩ := n
 simp only at *
 cases leaf with
 | true =>
  obtain ⟨h1, h2, h3, h4⟩ := h.leaf rfl
  simp only at h1 h2 h3 h4
  subst h1
  obtain ⟨z1, z2⟩ := qkk h2
  have := zvx s (keys.zip vals) z fun p hp => by
   obtain ⟨q1, q2⟩ := iA hp
   exact ⟨h.wide _ q1, h3 _ q2⟩
  rw [jF, ← h2, kK, z1, z2] at this
  simp only [if_true, iT, aI, qdu]
  rw [this]
 | false =>
  obtain ⟨h1, h2, h3, h4, h5⟩ := h.inner rfl
  simp only at h1 h2 h3 h4 h5
  subst h2
  have k1 := qfs kids (keys.flatMap id ++ z) fun k hk => by have := (h1 k hk).2; omega
  rw [h3] at k1
  have k2 := zrv s keys z fun k hk => h.wide k hk
  simp only [bU, if_false, qdu]
  rw [k1]
  simp only
  rw [k2]
noncomputable def zqc (s : Sh) (b : Bys) : Option Nd := by
 classical exact if (znh s b).2.2 = false ∧ zf1 s (znh s b).1 ∧ zcd (znh s b).1 = b then some (znh s b).1 else none
theorem qhj {s : Sh} (hs : 1 ≤ s.kw) {n : Nd} (h : zf1 s n) : zqc s (zcd n) = some n := by
 unfold zqc
 rw [qjq hs h, if_pos ⟨rfl, h, rfl⟩]
theorem qnc {s : Sh} {b : Bys} {n : Nd} (h : zqc s b = some n) : zf1 s n ∧ zcd n = b := by
 unfold zqc at h
 split at h
 ·rename_i hc
  cases h
  exact hc.2
 ·cases h
end Go.Eng.Tr
