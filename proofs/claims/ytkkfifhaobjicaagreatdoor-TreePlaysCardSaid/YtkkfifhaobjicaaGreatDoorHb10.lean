/- Delete, on pages: below the root. Own work; no condition. -/
/- Put and Delete at the root, Get, all from a key on, Check: what the tree's functions do with pages. Own work; no condition. -/
import Derived.Test.YtkkfifhaobjicaaGreatDoorHb09
namespace Go.Eng.Tr
open Go.Proofs.YtkkfifhaobjicaaGreatDoor
set_option maxRecDepth 100000
theorem zzz {h : Nat} (p : Nat) (kids : List (T h)) {i : Nat} (hi : i < kids.length) (c : T h) (L : List Nat) : (p :: (kids.set i c).flatMap pgs ++ L).Perm (pgs c ++ (p :: ((kids.take i).flatMap pgs ++ (kids.drop (i + 1)).flatMap pgs) ++ L)) := by
 have e2 : (kids.set i c).flatMap pgs = (kids.take i).flatMap pgs ++ (pgs c ++ (kids.drop (i + 1)).flatMap pgs) := by
  conv => lhs; rw [zne (kids.set i c) (j := i) (by rw [List.length_set]; exact hi)]
  rw [List.flatMap_append, List.flatMap_cons, List.getElem_set_self, List.take_set_of_le (by omega), List.drop_set_of_lt (by omega)]
 rw [e2, List.cons_append, List.cons_append]
 refine List.Perm.trans (.cons _ ?_) List.perm_middle.symm
 simp only [List.append_assoc]
 exact List.perm_append_comm_assoc _ _ _
theorem kid_perm' {h : Nat} (p : Nat) (kids : List (T h)) {i : Nat} (hi : i < kids.length) (L : List Nat) : (p :: kids.flatMap pgs ++ L).Perm (pgs kids[i] ++ (p :: ((kids.take i).flatMap pgs ++ (kids.drop (i + 1)).flatMap pgs) ++ L)) := by
 have := zzz p kids hi kids[i] L
 rwa [List.set_getElem_self] at this
theorem qhe {es : E} (hO : Es es) (k : K) (hf : fd (keys es) k = true) : lNd ((keys es).eraseIdx (lb (keys es) k)) ((List.map (fun q : K × K => q.2) es).eraseIdx (lb (keys es) k)) = lNd (List.map (fun q : K × K => q.1) (zcy es k)) (List.map (fun q : K × K => q.2) (zcy es k)) := by
 obtain ⟨w, a1, a2, a3, a4⟩ := (zna (e := es) (k := k) hO).1 hf
 rw [a4]
 have er : ∀ {β : Type} (f : K × K → β) (l : E) (i : Nat), (l.eraseIdx i).map f = (l.map f).eraseIdx i := fun f l i => by
  induction l generalizing i with
  | nil => rfl
  | cons x l ih =>
   cases i with
   | zero => rfl
   | succ i => simp only [List.eraseIdx_cons_succ, List.map_cons, ih]
 rw [er, er]
 rfl
structure qp6 (N : Nat) (g : Sg) {h : Nat} (t : T h) (r : T h × Bool × (Nat → Bool)) (o : Except Nat ((Nd × Bool) × Sg)) (g' : Sg) : Prop where
 is : o = .ok ((zal r.1, r.2.1), g')
 no : r.2.1 = false → g' = g
 kids : zz4 g'.W r.1
 S : g'.S = r.2.2
 frame : ∀ x, x < N → (x ∉ pgs t ∨ x = pg t) → g.S x = true → g'.W x = g.W x
theorem zps {s : Sh} (hs : zua s) {N : Nat} (hn : 0 < N) (hN : N ≤ 1024) (k : K) : ∀ {h : Nat} (t : T h) (d : Nat) (g : Sg) (L : List Nat), h < d → Ord t → Wd s t → Below s t → sz t ≤ mx s h → (1 ≤ h → 2 ≤ sz t) → Rep g.W t → Acc N g.S (pgs t ++ L) →
  ∃ g', qp6 N g t (zcw s N t k g.S) (zdz s N k d g (pg t : Nat)) g'
 | 0, (p, es), d + 1, g, L, _, hO, hW, hB, hm, h2k, hrep, hA => by
  have hO : Es es := hO
  obtain ⟨hp1, hp2⟩ := hA.low p (.head _)
  have hmay : zfs s (zal (zbk p es)) := zce (zbk p es) hO hW hm (fun h => by omega) fun x hx => by rw [List.mem_singleton.1 hx]; exact ⟨hp1, Nat.lt_of_lt_of_le hp2 hN⟩
  have hload : zen s N g (p : Nat) = .ok (zal (zbk p es)) := zec (t := zbk p es) hs.kw hrep hmay hp1 hp2
  have hr : zcw s N (zbk p es) k g.S = if fd (keys es) k then (zbk p (zcy es k), true, g.S) else (zbk p es, false, g.S) := rfl
  have hF : zdz s N k (d + 1) g (p : Nat) = if fd (keys es) k then .ok ((lNd ((keys es).eraseIdx (lb (keys es) k)) ((List.map (fun q : K × K => q.2) es).eraseIdx (lb (keys es) k)), true), g) else .ok ((zal (zbk p es), false), g) := by
   rw [zdz, hload]
   rfl
  show ∃ g', qp6 N g (zbk p es) (zcw s N (zbk p es) k g.S) (zdz s N k (d + 1) g (p : Nat)) g'
  rw [hr, hF]
  cases hf : fd (keys es) k with
  | false => exact ⟨g, rfl, fun _ => rfl, trivial, rfl, fun _ _ _ _ => rfl⟩
  | true => exact ⟨g, by rw [if_pos rfl, qhe hO k hf]; rfl, fun h => (nomatch h), trivial, rfl, fun _ _ _ _ => rfl⟩
 | h + 1, (p, ks, kids), d + 1, g, L, hd, hO, hW, hB, hm, h2k, hrep, hA => by
  have hA : Acc N g.S (p :: kids.flatMap pgs ++ L) := hA
  obtain ⟨hp1, hp2⟩ := hA.low p (.head _)
  have h2k' : 2 ≤ kids.length := h2k (Nat.succ_pos _)
  have hfan := hs.fan
  obtain ⟨o1, o2, o3⟩ : Ks ks ∧ Sep ks (kids.map ents) ∧ ∀ x ∈ kids, Ord x := hO
  obtain ⟨w1, w2⟩ : (∀ k ∈ ks, k.length = s.kw) ∧ ∀ x ∈ kids, Wd s x := hW
  have hB' : ∀ x ∈ kids, mx s h / 2 ≤ sz x ∧ sz x ≤ mx s h ∧ Below s x := hB
  have hrep' : ∀ x ∈ kids, Rep g.W x := hrep.2
  have hl := o2.len
  rw [List.length_map] at hl
  have hi : dn ks k < kids.length := by have := znq ks k; omega
  have hc : kids[dn ks k]? = some kids[dn ks k] := List.getElem?_eq_getElem hi
  have hcm := List.getElem_mem hi
  have hh := hs.h2 h
  have hnd := hA.nodup
  obtain ⟨nd1, nd2⟩ := List.nodup_cons.1 (show (p :: (kids.flatMap pgs ++ L)).Nodup from hnd)
  have nd3 := (List.nodup_append.1 nd2).1
  have hin : ∀ x ∈ kids, ∀ y ∈ pgs x, y ∈ kids.flatMap pgs := fun x hx y hy => List.mem_flatMap.2 ⟨x, hx, hy⟩
  have hmay : zfs s (zal (zaw p ks kids)) := zce (zaw p ks kids) ⟨o1, o2, o3⟩ ⟨w1, w2⟩ hm h2k fun x hx => by
   have := hA.low x (List.mem_append_left _ hx)
   exact ⟨this.1, by omega⟩
  have hload : zen s N g (p : Nat) = .ok (zal (zaw p ks kids)) := zec (t := zaw p ks kids) hs.kw hrep hmay hp1 hp2
  have h2c : 1 ≤ h → 2 ≤ sz kids[dn ks k] := fun h1 => by
   have := (hB' _ hcm).1
   cases h with
   | zero => omega
   | succ h => have e : mx s (h + 1) = s.fan := rfl; omega
  have hAc := hA.perm (kid_perm' p kids hi L)
  obtain ⟨g1, hg1⟩ := zps hs hn hN k kids[dn ks k] d g _ (by omega) (o3 _ hcm) (w2 _ hcm) (hB' _ hcm).2.2 (hB' _ hcm).2.1 h2c (hrep' _ hcm) hAc
  have hrok := zky s N hn hs.h2 (by omega) k kids[dn ks k] g.S (o3 _ hcm) (w2 _ hcm) (hB' _ hcm).2.2 (hB' _ hcm).2.1 h2c
  have hrem : zcw s N (zaw p ks kids) k g.S = match zcw s N kids[dn ks k] k g.S with
   | (_, false, S') => (zaw p ks kids, false, S')
   | (c', true, S') => if sz c' < mx s h / 2 then ((zg5 s N S' p ks (kids.set (dn ks k) c') (dn ks k)).1, true, (zg5 s N S' p ks (kids.set (dn ks k) c') (dn ks k)).2)
    else (zaw p ks (kids.set (dn ks k) c'), true, S') := by
   simp only [zcw, zaw, hc]
   rfl
  have hkd : (zal (zaw p ks kids)).kids.getD (dn ks k) 0 = pg kids[dn ks k] := by
   show (kids.map pg).getD (dn ks k) 0 = _
   rw [List.getD_eq_getElem?_getD, List.getElem?_map, hc]; rfl
  have hF : zdz s N k (d + 1) g (p : Nat) = (do
    let (r, g1) ← zdz s N k d g (pg kids[dn ks k] : Nat)
    if r.2 then do
     let g2 ← zb7 s N g1 (pg kids[dn ks k]) r.1
     if zht s r.1 then do
      let (n', g3) ← zgy s N g2 (zal (zaw p ks kids)) (dn ks k)
      return ((n', true), g3)
     else return ((zal (zaw p ks kids), true), g2)
    else return ((zal (zaw p ks kids), false), g1)) := by
   rw [zdz, hload, ← hkd]
   rfl
  show ∃ g', qp6 N g (zaw p ks kids) (zcw s N (zaw p ks kids) k g.S) (zdz s N k (d + 1) g (p : Nat)) g'
  rw [hrem, hF, hg1.is]
  obtain ⟨⟨c', is, S'⟩, hr⟩ : ∃ r, zcw s N kids[dn ks k] k g.S = r := ⟨_, rfl⟩
  rw [hr] at hg1 hrok ⊢
  cases is with
  | false =>
   obtain ⟨-, hS⟩ := hrok.no rfl
   have hg := hg1.no rfl
   refine ⟨g, by rw [hg]; rfl, fun _ => rfl, hrep.2, ?_, fun _ _ _ _ => rfl⟩
   exact hS.symm
  | true =>
   obtain ⟨y1, y2, y3, y4, y5, y6, y7, y8⟩ := hrok.yes rfl
   simp only at y1 y2 y3 y4 y5 y6 y7 y8
   have hg1S : g1.S = S' := hg1.S
   have hg1k : zz4 g1.W c' := hg1.kids
   have hA1c := y8 _ hAc
   have hA1 : Acc N S' (p :: (kids.set (dn ks k) c').flatMap pgs ++ L) := hA1c.perm (zzz p kids hi c' L).symm
   have hnd1 := hA1.nodup
   obtain ⟨md1, md2⟩ := List.nodup_cons.1 (show (p :: ((kids.set (dn ks k) c').flatMap pgs ++ L)).Nodup from hnd1)
   obtain ⟨md3, md4, md5⟩ := List.nodup_append.1 md2
   have h2c' : 1 ≤ h → 2 ≤ sz c' := fun h1 => by
    have := (hB' _ hcm).1
    cases h with
    | zero => omega
    | succ h => have e : mx s (h + 1) = s.fan := rfl; omega
   have hcs := hB' _ hcm
   have hlowc : ∀ x ∈ pgs c', 1 ≤ x ∧ x < 1024 := fun x hx => by
    have := hA1c.low x (List.mem_append_left _ hx)
    exact ⟨this.1, by omega⟩
   have hmayc : zfs s (zal c') := zce c' y3 y4 (by omega) h2c' hlowc
   obtain ⟨q1, q2⟩ := hA1c.low (pg c') (List.mem_append_left _ (zcb c'))
   rw [y1] at q1 q2
   have hsave : zb7 s N g1 (pg kids[dn ks k]) (zal c') = .ok { g1 with W := wr g1.W (pg kids[dn ks k]) (zcg (zal c')) } := zcn hmayc q1 q2
   have hcnd : (pgs c').Nodup := (List.nodup_append.1 hA1c.nodup).1
   have hrc : Rep (wr g1.W (pg kids[dn ks k]) (zcg (zal c'))) c' := by
    refine Rep.mk' ?_ (hg1k.frame (fun y _ hne => zbe _ _ (by rw [← y1]; exact hne)) hcnd)
    rw [y1]
    exact zfz _ _ _
   have hother : ∀ x ∈ kids.set (dn ks k) c', Rep (wr g1.W (pg kids[dn ks k]) (zcg (zal c'))) x := fun x hx => by
    obtain ⟨j, hj, rfl⟩ := List.getElem_of_mem hx
    rw [List.length_set] at hj
    rw [List.getElem_set]
    split
    ·exact hrc
    ·rename_i hne
     refine (hrep' _ (List.getElem_mem hj)).frame fun y hy => ?_
     have hyin := hin _ (List.getElem_mem hj) y hy
     have hyA : y ∈ p :: kids.flatMap pgs ++ L := .tail _ (List.mem_append_left _ hyin)
     have hyd := zus nd3 hj hi (fun e => hne e.symm) y hy
     have hyl := hA.low y hyA
     rw [zbe _ _ (fun e => hyd (by rw [e]; exact zcb _))]
     exact hg1.frame y hyl.2 (.inl hyd) ((hA.is y hyl.2).2 (.inr hyA))
   have hfr : ∀ x, x < N → (x ∉ pgs (zaw p ks kids) ∨ x = p) → g.S x = true → wr g1.W (pg kids[dn ks k]) (zcg (zal c')) x = g.W x := fun x hx hxp hxS => by
    have hnc : x ∉ pgs kids[dn ks k] := fun h => by
     have h1 := hin _ hcm x h
     rcases hxp with hxp | rfl
     ·exact hxp (.tail _ h1)
     ·exact nd1 (List.mem_append_left _ h1)
    rw [zbe _ _ (fun e => hnc (by rw [e]; exact zcb _))]
    exact hg1.frame x hx (.inl hnc) hxS
   have hnode : zal (zaw p ks kids) = zal (zaw p ks (kids.set (dn ks k) c')) := by
    show iNd ks (kids.map pg) = iNd ks ((kids.set (dn ks k) c').map pg)
    rw [zmo kids hi c' y1]
   have hred : (do
    let (r, g1) ← (Except.ok ((zal c', true), g1) : Except Nat ((Nd × Bool) × Sg))
    if r.2 then do
     let g2 ← zb7 s N g1 (pg kids[dn ks k]) r.1
     if zht s r.1 then do
      let (n', g3) ← zgy s N g2 (zal (zaw p ks kids)) (dn ks k)
      return ((n', true), g3)
     else return ((zal (zaw p ks kids), true), g2)
    else return ((zal (zaw p ks kids), false), g1)) = (if sz c' < mx s h / 2 then (do
      let (n', g3) ← zgy s N { g1 with W := wr g1.W (pg kids[dn ks k]) (zcg (zal c')) } (zal (zaw p ks (kids.set (dn ks k) c'))) (dn ks k)
      return ((n', true), g3))
     else .ok ((zal (zaw p ks (kids.set (dn ks k) c')), true), { g1 with W := wr g1.W (pg kids[dn ks k]) (zcg (zal c')) })) := by
    show (do
     let g2 ← zb7 s N g1 (pg kids[dn ks k]) (zal c')
     if zht s (zal c') then do
      let (n', g3) ← zgy s N g2 (zal (zaw p ks kids)) (dn ks k)
      return ((n', true), g3)
     else return ((zal (zaw p ks kids), true), g2)) = _
    rw [hsave, hnode]
    show (if zht s (zal c') then do
      let (n', g3) ← zgy s N { g1 with W := wr g1.W (pg kids[dn ks k]) (zcg (zal c')) } (zal (zaw p ks (kids.set (dn ks k) c'))) (dn ks k)
      return ((n', true), g3)
     else return ((zal (zaw p ks (kids.set (dn ks k) c')), true), { g1 with W := wr g1.W (pg kids[dn ks k]) (zcg (zal c')) })) = _
    rw [zpu]
    by_cases hw : sz c' < mx s h / 2
    ·rw [decide_eq_true hw, if_pos rfl, if_pos hw]
    ·rw [decide_eq_false hw, if_neg Bool.false_ne_true, if_neg hw]; rfl
   rw [hred]
   by_cases hpoor : sz c' < mx s h / 2
   ·rw [if_pos hpoor]
    simp only [if_pos hpoor]
    obtain ⟨kids', hk'⟩ : ∃ l, kids.set (dn ks k) c' = l := ⟨_, rfl⟩
    have hlen' : kids'.length = kids.length := by rw [← hk', List.length_set]
    have hj : dn ks k - 1 + 1 < kids'.length := by omega
    have hjk : dn ks k - 1 < ks.length := by omega
    have e1 := qjh kids' hj
    have e2 := zne ks hjk
    have hat : kids'[dn ks k]'(by omega) = c' := by subst hk'; rw [List.getElem_set_self]
    have hothr : ∀ m (hm : m < kids'.length), m ≠ dn ks k → kids'[m] = kids[m]'(by omega) := fun m hm hne => by subst hk'; rw [List.getElem_set_ne (Ne.symm hne)]
    have hall : ∀ m (hm : m < kids'.length), Ord kids'[m] ∧ Wd s kids'[m] ∧ Below s kids'[m] ∧ sz kids'[m] ≤ mx s h ∧ (1 ≤ h → 2 ≤ sz kids'[m]) := fun m hm => by
     by_cases hmi : m = dn ks k
     ·subst hmi
      rw [hat]
      exact ⟨y3, y4, y5, by omega, h2c'⟩
     ·rw [hothr m hm hmi]
      have hmm := List.getElem_mem (by omega : m < kids.length)
      have hbm := hB' _ hmm
      exact ⟨o3 _ hmm, w2 _ hmm, hbm.2.2, hbm.2.1, fun h1 => by
       have := hbm.1
       cases h with
       | zero => omega
       | succ h => have e : mx s (h + 1) = s.fan := rfl; omega⟩
    have hszs : ∀ m (hm : m < kids'.length), m ≠ dn ks k → mx s h / 2 ≤ sz kids'[m] ∧ sz kids'[m] ≤ mx s h := fun m hm hne => by
     rw [hothr m hm hne]
     have := hB' _ (List.getElem_mem (by omega : m < kids.length))
     exact ⟨this.1, this.2.1⟩
    have hab : sz kids'[dn ks k - 1] + sz kids'[dn ks k - 1 + 1] ≤ mx s h + mx s h / 2 := by
     rcases Nat.eq_zero_or_pos (dn ks k) with h0 | h0
     ·have a1 : kids'[dn ks k - 1]'(by omega) = c' := by rw [← hat]; congr 1; omega
      have a2 := hszs (dn ks k - 1 + 1) hj (by omega)
      rw [a1]; omega
     ·have a1 : kids'[dn ks k - 1 + 1]'(by omega) = c' := by rw [← hat]; congr 1; omega
      have a2 := hszs (dn ks k - 1) (by omega) (by omega)
      rw [a1]; omega
    have hbd := o2.bd o1 (i := dn ks k) (by rw [List.length_map]; exact hi)
    rw [List.getElem_map] at hbd
    have hbp : Bd ks (dn ks k) (ents c') := hbd.sub fun q hq => by rw [y2] at hq; exact zsw hq
    have hsep : Sep ks (kids'.map ents) := by rw [← hk', map_set']; exact o2.set o1 _ hbp
    obtain ⟨p1, p2⟩ := hsep.part o1
    have la : ze6 (ents kids'[dn ks k - 1]) ks[dn ks k - 1] := by
     have := p1 (dn ks k - 1) (dn ks k - 1) hjk (by rw [List.length_map]; omega) (Nat.le_refl _)
     rwa [List.getElem_map] at this
    have gb : zgn (ents kids'[dn ks k - 1 + 1]) ks[dn ks k - 1] := by
     have := p2 (dn ks k - 1) (dn ks k - 1 + 1) hjk (by rw [List.length_map]; omega) (Nat.lt_succ_self _)
     rwa [List.getElem_map] at this
    rw [hk'] at hother hA1 md1 md2 md3 md5 ⊢
    have ha' := hall (dn ks k - 1) (by omega)
    have hb' := hall (dn ks k - 1 + 1) hj
    have hrow : ∀ x ∈ kids'.flatMap pgs, 1 ≤ x ∧ x < N ∧ S' x = true := fun x hx => by
     have hxA : x ∈ p :: kids'.flatMap pgs ++ L := .tail _ (List.mem_append_left _ hx)
     have := hA1.low x hxA
     exact ⟨this.1, this.2, (hA1.is x this.2).2 (.inr hxA)⟩
    obtain ⟨g3, m1, m2, m3, m4⟩ := qa7 hs hN (p := p) (P := ks.take (dn ks k - 1)) (R := ks.drop (dn ks k - 1 + 1)) (q0 := ks[dn ks k - 1]) (X := kids'.take (dn ks k - 1)) (Y := kids'.drop (dn ks k - 1 + 2)) (a := kids'[dn ks k - 1]) (b := kids'[dn ks k - 1 + 1]) (by rw [List.length_take, List.length_take]; omega) { g1 with W := wr g1.W (pg kids[dn ks k]) (zcg (zal c')) } ha'.1 hb'.1 ha'.2.1 hb'.2.1 (w1 _ (List.getElem_mem hjk)) ha'.2.2.1 hb'.2.2.1 la gb ha'.2.2.2.1 hb'.2.2.2.1 ha'.2.2.2.2 hb'.2.2.2.2 hab (by rw [← e1]; exact hother) (by rw [← e1]; exact md3) (by rw [← e1]; show ∀ x ∈ kids'.flatMap pgs, 1 ≤ x ∧ x < N ∧ g1.S x = true; rw [hg1S]; exact hrow) (by show g1.S 0 = true; rw [hg1S]; exact (hA1.is 0 hn).2 (.inl rfl)) (dn ks k) (by rw [List.length_take]; omega)
    rw [← e1, ← e2] at m1 m2 m3
    rw [← e1] at m4
    have m1' : zgy s N { g1 with W := wr g1.W (pg kids[dn ks k]) (zcg (zal c')) } (zal (zaw p ks kids')) (dn ks k) = .ok (zal (zg5 s N S' p ks kids' (dn ks k)).1, g3) := by
     rw [show zg5 s N S' p ks kids' (dn ks k) = zg5 s N g1.S p ks kids' (dn ks k) by rw [hg1S]]; exact m1
    have m2' : zz4 g3.W (zg5 s N S' p ks kids' (dn ks k)).1 := by rw [← hg1S]; exact m2
    have m3' : g3.S = (zg5 s N S' p ks kids' (dn ks k)).2 := by rw [← hg1S]; exact m3
    rw [m1']
    refine ⟨g3, rfl, fun h => (nomatch h), m2', m3', fun x hx hxp hxS => ?_⟩
    have hx1 : x = 0 ∨ x = p ∨ x ∈ L := by
     rcases (hA.is x hx).1 hxS with h | h
     ·exact .inl h
     ·rcases List.mem_cons.1 (show x ∈ p :: (kids.flatMap pgs ++ L) from h) with h | h
      ·exact .inr (.inl h)
      ·rcases List.mem_append.1 h with h | h
       ·rcases hxp with hxp | hxp
        ·exact absurd (List.Mem.tail _ h) hxp
        ·exact .inr (.inl hxp)
       ·exact .inr (.inr h)
    have hS1x : S' x = true := (hA1.is x hx).2 (hx1.imp id fun h => by
     rcases h with rfl | h
     ·exact .head _
     ·exact .tail _ (List.mem_append_right _ h))
    have hxn : x ∉ kids'.flatMap pgs := fun hxk => by
     rcases hx1 with rfl | rfl | h
     ·have := (hrow 0 hxk).1; omega
     ·exact md1 (List.mem_append_left _ hxk)
     ·exact md5 x hxk x h rfl
    rw [m4 x hx hxn (by show g1.S x = true; rw [hg1S]; exact hS1x)]
    exact hfr x hx hxp hxS
   ·rw [if_neg hpoor]
    simp only [if_neg hpoor]
    exact ⟨_, rfl, fun h => (nomatch h), hother, hg1S, hfr⟩
def qir (W : Nat → Bys) : Rt → Prop
 | none => True
 | some ⟨_, t⟩ => Rep W t
noncomputable section
def zqo (s : Sh) (N : Nat) (key val : K) (g : Sg) (root : Int) : Except Nat (Int × Sg) :=
 if root = 0 then do
  let (q, g1) ← zic N g
  let g2 ← zb7 s N g1 q (lNd [key] [val])
  return ((q : Int), g2)
 else do
  let (gr, g1) ← putF s N key val 16 g root
  if gr.2 = 0 then return (root, g1)
  else do
   let (q, g2) ← zic N g1
   let g3 ← zb7 s N g2 q (iNd [gr.1] [root.toNat, gr.2])
   return ((q : Int), g3)
def zuk (s : Sh) (N : Nat) (key : K) (g : Sg) (root : Int) : Except Nat ((Int × Bool) × Sg) :=
 if root = 0 then return ((0, false), g)
 else do
  let (r, g1) ← zdz s N key 16 g root
  if r.2 = false then return ((root, false), g1)
  else if r.1.leaf = true ∧ r.1.keys.length = 0 then do
   let g2 ← zfy N g1 root.toNat
   return ((0, true), g2)
  else if r.1.leaf = false ∧ r.1.kids.length = 1 then do
   let g2 ← zfy N g1 root.toNat
   return (((r.1.kids.getD 0 0 : Nat), true), g2)
  else do
   let g2 ← zb7 s N g1 root.toNat r.1
   return ((root, true), g2)
def zkd (s : Sh) (N : Nat) (g : Sg) (key : K) : Nat → Int → Except Nat Nd
 | 0, _ => .error 12
 | d + 1, at_ => do
  let n ← zen s N g at_
  if n.leaf then return n else zkd s N g key d (n.kids.getD (dn n.keys key) 0 : Nat)
def zyu (s : Sh) (N : Nat) (g : Sg) (key : K) (root : Int) : Except Nat (Option K) :=
 if root = 0 then return none
 else do
  let n ← zkd s N g key 16 root
  return if fd n.keys key then n.vals[lb n.keys key]? else none
end
theorem qhg {s : Sh} (hs : zua s) {N : Nat} (hN : N ≤ 1024) (k v : K) (hk : k.length = s.kw) (hv : v.length = s.vw) (r : Rt) (g : Sg) (L : List Nat) (hr : qcn s r) (hrep : qir g.W r) (hA : Acc N g.S (zm4 r ++ L)) (hroom : (zm4 r ++ L).length + zgr r + 3 < N) (hh : zgr r < 16) :
  ∃ g', zqo s N k v g (zgt r : Nat) = .ok ((zgt (qct s N k v g.S r).1 : Nat), g') ∧ qir g'.W (qct s N k v g.S r).1 ∧ g'.S = (qct s N k v g.S r).2 ∧ ∀ x ∈ L, g'.W x = g.W x := by
 match r with
 | none =>
  have hA : Acc N g.S L := hA
  have hroom : L.length + 0 + 3 < N := hroom
  obtain ⟨f1, f2, f3, f4, f5⟩ := hA.free (by omega)
  have hmay : zfs s (lNd [k] [v]) := zce (h := 0) (zbk (nw N g.S) [(k, v)]) (List.pairwise_singleton _ _) (fun q hq => by rw [List.mem_singleton.1 hq]; exact ⟨hk, hv⟩) (by show 1 ≤ s.cap; have := hs.cap; omega) (fun h => by omega) fun x hx => by rw [List.mem_singleton.1 hx]; exact ⟨f4, Nat.lt_of_lt_of_le f2 hN⟩
  refine ⟨⟨wr (wr g.W (nw N g.S) (List.replicate 512 0)) (nw N g.S) (zcg (lNd [k] [v])), us g.S (nw N g.S) true⟩, ?_, zfz _ _ _, rfl, fun x hx => ?_⟩
  ·show zqo s N k v g ((0 : Nat) : Int) = _
   unfold zqo zic
   rw [if_pos (show ((0 : Nat) : Int) = 0 from rfl), if_pos ⟨_, f2, f1⟩]
   show (do
    let g2 ← zb7 s N _ (nw N g.S) (lNd [k] [v])
    return (((nw N g.S : Nat) : Int), g2)) = _
   rw [zcn hmay f4 f2]
   rfl
  ·have hne : x ≠ nw N g.S := fun e => f5 (by rw [← e]; exact hx)
   show wr _ _ _ x = _
   rw [zbe _ _ hne, zbe _ _ hne]
 | some ⟨h, t⟩ =>
  have hr : TOk s t := hr
  have hrep : Rep g.W t := hrep
  have hA : Acc N g.S (pgs t ++ L) := hA
  have hroom : (pgs t ++ L).length + h + 3 < N := hroom
  have hh : h < 16 := hh
  obtain ⟨nd1, nd2, nd3⟩ := List.nodup_append.1 hA.nodup
  obtain ⟨g1, hg1⟩ := zzm hs hN k v hk hv t 16 g (pgs t ++ L) hh hr.ord hr.wd hr.below hr.le hr.two hrep nd1 (fun x hx => List.mem_append_left _ hx) hA (by omega)
  obtain ⟨N1, f1, f2, f3⟩ := zzp s N k v t g.S (fun _ => trivial)
  obtain ⟨hok, -⟩ := zqx s N hs.h2 k v hk hv t g.S hr.ord hr.wd hr.below hr.le
  have hA1 := f3 (pgs t ++ L) (by omega) hA
  obtain ⟨hp1, hp2⟩ := hA.low (pg t) (List.mem_append_left _ (zcb t))
  have hne0 : ¬ ((pg t : Nat) : Int) = 0 := by omega
  have hput : qct s N k v g.S (some ⟨h, t⟩) = match znj s N t k v g.S with
   | (t', none, S') => (some ⟨h, t'⟩, S')
   | (t', some (q, d), S') => (some ⟨h + 1, zaw (nw N S') [q] [t', d]⟩, us S' (nw N S') true) := rfl
  have hF : zqo s N k v g ((pg t : Nat) : Int) = (do
    let (gr, g1) ← putF s N k v 16 g (pg t : Nat)
    if gr.2 = 0 then return (((pg t : Nat) : Int), g1)
    else do
     let (q, g2) ← zic N g1
     let g3 ← zb7 s N g2 q (iNd [gr.1] [((pg t : Nat) : Int).toNat, gr.2])
     return ((q : Int), g3)) := by
   unfold zqo
   rw [if_neg hne0]
  show ∃ g', zqo s N k v g ((pg t : Nat) : Int) = .ok ((zgt (qct s N k v g.S (some ⟨h, t⟩)).1 : Nat), g') ∧ qir g'.W (qct s N k v g.S (some ⟨h, t⟩)).1 ∧ g'.S = (qct s N k v g.S (some ⟨h, t⟩)).2 ∧ ∀ x ∈ L, g'.W x = g.W x
  rw [hput, hF, Int.toNat_natCast]
  obtain ⟨⟨t', go, S'⟩, hq⟩ : ∃ r, znj s N t k v g.S = r := ⟨_, rfl⟩
  rw [hq] at hg1 hok f2 hA1 ⊢
  have hpt : pg t' = pg t := hok.page
  have hfrL : ∀ x ∈ L, g1.W x = g.W x := fun x hx => by
   have hxA : x ∈ pgs t ++ L := List.mem_append_right _ hx
   have := hA.low x hxA
   exact hg1.frame x this.2 (fun h => nd3 x h x hx rfl) ((hA.is x this.2).2 (.inr hxA))
  cases go with
  | none =>
   rw [hg1.none rfl]
   exact ⟨g1, by show Except.ok (((pg t : Nat) : Int), g1) = .ok (((pg t' : Nat) : Int), g1); rw [hpt], hg1.rep, hg1.S, hfrL⟩
  | some go =>
   obtain ⟨q, d⟩ := go
   obtain ⟨ho, hrd, hd1⟩ := hg1.some q d rfl
   obtain ⟨e1, e2, e3, e4, e5, e6, e7, e8, e9, e10, e11, e12, e13, e14⟩ := hok.some q d rfl
   simp only at e1 e2 e3 e4 e5 e6 e7 e8 e9 e10 e11 e12 e13 e14
   have f2 : (pgs t' ++ pgs d).Perm (N1 ++ pgs t) := f2
   have hg1S : g1.S = S' := hg1.S
   have hA1 : Acc N g1.S (N1 ++ (pgs t ++ L)) := by rw [hg1S]; exact hA1
   obtain ⟨r1, r2, r3, r4, r5⟩ := hA1.free (by rw [List.length_append]; omega)
   rw [ho]
   have hin : ∀ x ∈ pgs t' ++ pgs d, x ∈ N1 ++ (pgs t ++ L) := fun x hx => by
    rw [← List.append_assoc]
    exact List.mem_append_left _ (f2.mem_iff.1 hx)
   have hneq : ∀ x ∈ pgs t' ++ pgs d, x ≠ nw N g1.S := fun x hx e => r5 (by rw [← e]; exact hin x hx)
   have hmay : zfs s (iNd [q] [pg t, pg d]) := by
    have := zce (zaw (nw N g1.S) [q] [t', d]) (s := s) ⟨List.pairwise_singleton _ _, ⟨e7, fun e he => (List.mem_singleton.1 he) ▸ e8, trivial⟩, fun x hx => by
     rcases List.mem_cons.1 hx with rfl | hx
     ·exact e2
     ·exact (List.mem_singleton.1 hx) ▸ e3⟩ ⟨fun x hx => (List.mem_singleton.1 hx) ▸ e6, fun x hx => by
     rcases List.mem_cons.1 hx with rfl | hx
     ·exact e4
     ·exact (List.mem_singleton.1 hx) ▸ e5⟩ (by show 2 ≤ s.fan; have := hs.fan; omega) (fun _ => by show 2 ≤ 2; decide) fun x hx => by
      rcases List.mem_cons.1 hx with rfl | hx
      ·exact ⟨r4, Nat.lt_of_lt_of_le r2 hN⟩
      ·have hx : x ∈ [t', d].flatMap pgs := hx
       simp only [List.flatMap_cons, List.flatMap_nil, List.append_nil] at hx
       have := hA1.low x (hin x hx)
       exact ⟨this.1, Nat.lt_of_lt_of_le this.2 hN⟩
    have e : zal (zaw (nw N g1.S) [q] [t', d]) = iNd [q] [pg t, pg d] := by
     show iNd [q] [pg t', pg d] = _
     rw [hpt]
    rw [← e]; exact this
   have hne : ¬ (pg d = 0) := by omega
   refine ⟨⟨wr (wr g1.W (nw N g1.S) (List.replicate 512 0)) (nw N g1.S) (zcg (iNd [q] [pg t, pg d])), us g1.S (nw N g1.S) true⟩, ?_, ⟨?_, fun x hx => ?_⟩, ?_, fun x hx => ?_⟩
   ·show (if pg d = 0 then _ else (do
     let (q', g2) ← zic N g1
     let g3 ← zb7 s N g2 q' (iNd [q] [pg t, pg d])
     return ((q' : Int), g3))) = _
    rw [if_neg hne]
    unfold zic
    rw [if_pos ⟨_, r2, r1⟩]
    show (do
     let g3 ← zb7 s N _ (nw N g1.S) (iNd [q] [pg t, pg d])
     return (((nw N g1.S : Nat) : Int), g3)) = _
    rw [zcn hmay r4 r2]
    show Except.ok (((nw N g1.S : Nat) : Int), _) = .ok (((nw N S' : Nat) : Int), _)
    rw [hg1S]
   ·show wr _ _ _ (nw N S') = _
    rw [← hg1S, zfz]
    show _ = zcg (iNd [q] [pg t', pg d])
    rw [hpt]
   ·have hx : x ∈ [t', d] := hx
    have hrx : Rep g1.W x := by
     rcases List.mem_cons.1 hx with rfl | hx
     ·exact hg1.rep
     ·exact (List.mem_singleton.1 hx) ▸ hrd
    refine hrx.frame fun y hy => ?_
    have hy' : y ∈ pgs t' ++ pgs d := by
     rcases List.mem_cons.1 hx with rfl | hx
     ·exact List.mem_append_left _ hy
     ·have := List.mem_singleton.1 hx; subst this; exact List.mem_append_right _ hy
    show wr _ _ _ y = g1.W y
    rw [zbe _ _ (hneq y hy'), zbe _ _ (hneq y hy')]
   ·show us g1.S (nw N g1.S) true = us S' (nw N S') true
    rw [hg1S]
   ·have hxn : x ≠ nw N g1.S := fun e => r5 (by rw [← e]; exact List.mem_append_right _ (List.mem_append_right _ hx))
    show wr _ _ _ x = _
    rw [zbe _ _ hxn, zbe _ _ hxn]
    exact hfrL x hx
end Go.Eng.Tr
