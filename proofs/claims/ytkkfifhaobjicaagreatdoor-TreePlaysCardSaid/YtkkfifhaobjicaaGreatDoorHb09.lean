/- Put, on pages. Own work; no condition. -/
/- Delete, on pages. Own work; no condition. -/
import Derived.Test.YtkkfifhaobjicaaGreatDoorHb08
namespace Go.Eng.Tr
open Go.Proofs.YtkkfifhaobjicaaGreatDoor
set_option maxRecDepth 100000
def zw5 (n : Nd) (key val : K) : Nd := if fd n.keys key then lNd n.keys (n.vals.set (lb n.keys key) val) else lNd (ins n.keys (lb n.keys key) key) (ins n.vals (lb n.keys key) val)
noncomputable section
def putF (s : Sh) (N : Nat) (key val : K) : Nat → Sg → Int → Except Nat ((K × Nat) × Sg)
 | 0, _, _ => .error 12
 | d + 1, g, at_ => do
  let n ← zen s N g at_
  if n.leaf then zcd s N g at_.toNat (zw5 n key val)
  else do
   let (gr, g1) ← putF s N key val d g (n.kids.getD (dn n.keys key) 0 : Nat)
   if gr.2 = 0 then return (gr, g1)
   else zcd s N g1 at_.toNat (iNd (ins n.keys (dn n.keys key) gr.1) (ins n.kids (dn n.keys key + 1) gr.2))
end
theorem zy9 {α : Type} (l : List α) (i : Nat) (x : α) (h : l[i]? = some x) : l.set i x = l := by
 obtain ⟨h1, h2⟩ := List.getElem?_eq_some_iff.1 h
 rw [← h2]; exact List.set_getElem_self h1
theorem qhn {es : E} (hO : Es es) (p : Nat) (k v : K) : zw5 (zal (zbk p es)) k v = zal (zbk p (zfl es k v)) := by
 have hr := zna (e := es) (k := k) hO
 show (if fd (keys es) k then lNd (keys es) ((List.map (fun q : K × K => q.2) es).set (lb (keys es) k) v) else lNd (ins (keys es) (lb (keys es) k) k) (ins (List.map (fun q : K × K => q.2) es) (lb (keys es) k) v)) = lNd (List.map (fun q : K × K => q.1) (zfl es k v)) (List.map (fun q : K × K => q.2) (zfl es k v))
 cases hf : fd (keys es) k with
 | true =>
  obtain ⟨w, a1, -, a3, -⟩ := hr.1 hf
  rw [if_pos rfl, a3, List.map_set, List.map_set]
  congr 1
  exact (zy9 (keys es) _ _ (by
   show (List.map (fun q : K × K => q.1) es)[lb (keys es) k]? = some k
   rw [List.getElem?_map, a1]; rfl)).symm
 | false =>
  obtain ⟨-, a2, -⟩ := hr.2 hf
  rw [if_neg Bool.false_ne_true, a2, zpx, zpx]
  rfl
theorem zus {h : Nat} {kids : List (T h)} (hn : (kids.flatMap pgs).Nodup) {i j : Nat} (hi : i < kids.length) (hj : j < kids.length) (hij : i ≠ j) : ∀ y ∈ pgs kids[i], y ∉ pgs kids[j] := by
 induction kids generalizing i j with
 | nil => exact absurd hi (Nat.not_lt_zero _)
 | cons x l ih =>
  rw [List.flatMap_cons, List.nodup_append] at hn
  obtain ⟨n1, n2, n3⟩ := hn
  intro y hy hy'
  cases i with
  | zero =>
   cases j with
   | zero => exact hij rfl
   | succ j => exact n3 y hy y (List.mem_flatMap.2 ⟨_, List.getElem_mem (by simpa using hj), hy'⟩) rfl
  | succ i =>
   cases j with
   | zero => exact n3 y hy' y (List.mem_flatMap.2 ⟨_, List.getElem_mem (by simpa using hi), hy⟩) rfl
   | succ j => exact ih n2 (by simpa using hi) (by simpa using hj) (by omega) y hy hy'
theorem qhp {s : Sh} (h2 : ∀ h, 2 ≤ mx s h) {h : Nat} {p : Nat} {ks : List K} {kids : List (T h)} (hO : Ord (zaw p ks kids)) (hW : Wd s (zaw p ks kids)) (hB : Below s (zaw p ks kids)) {k v : K} (hi : dn ks k < kids.length) {c' d : T h} {q : K} {r : Res h} (hr : zkf s kids[dn ks k] (zfl (ents kids[dn ks k]) k v) r) (h1 : r.1 = c') (h3 : r.2.1 = some (q, d)) :
  Ord (zaw p (ins ks (dn ks k) q) (ins (kids.set (dn ks k) c') (dn ks k + 1) d)) ∧ Wd s (zaw p (ins ks (dn ks k) q) (ins (kids.set (dn ks k) c') (dn ks k + 1) d)) ∧ Below s (zaw p (ins ks (dn ks k) q) (ins (kids.set (dn ks k) c') (dn ks k + 1) d)) := by
 subst h1
 obtain ⟨o1, o2, o3⟩ : Ks ks ∧ Sep ks (kids.map ents) ∧ ∀ x ∈ kids, Ord x := hO
 obtain ⟨w1, w2⟩ : (∀ k ∈ ks, k.length = s.kw) ∧ ∀ x ∈ kids, Wd s x := hW
 have hB : ∀ x ∈ kids, mx s h / 2 ≤ sz x ∧ sz x ≤ mx s h ∧ Below s x := hB
 have hbd := o2.bd o1 (i := dn ks k) (by rw [List.length_map]; exact hi)
 rw [List.getElem_map] at hbd
 have hbp := qop o1 (v := v) hbd
 obtain ⟨n1, n2, n3, n4, n5, n6, n7, n8, n9, n10, n11, n12, n13, n14⟩ := hr.some q d h3
 have hh := h2 h
 have ne1 := zhv s h2 r.1 n13 (by omega)
 have ne2 := zhv s h2 d n14 (by omega)
 obtain ⟨x1, hx1⟩ := List.exists_mem_of_ne_nil _ ne1
 obtain ⟨x2, hx2⟩ := List.exists_mem_of_ne_nil _ ne2
 have b1 : Bd ks (dn ks k) (ents r.1) := hbp.sub fun p hp => by rw [← n1]; exact List.mem_append_left _ hp
 have b2 : Bd ks (dn ks k) (ents d) := hbp.sub fun p hp => by rw [← n1]; exact List.mem_append_right _ hp
 obtain ⟨i1, i2⟩ := o2.ins o1 (i := dn ks k) (by rw [List.length_map]; exact hi) b1 b2 n7 n8 (fun j hj hij => zdg (b1.2 j hj hij x1 hx1) (n7 x1 hx1)) fun j hj hij => zdg (n8 x2 hx2) (b2.1 j hj hij x2 hx2)
 refine ⟨⟨i1, ?_, fun x hx => ?_⟩, ⟨fun x hx => ?_, fun x hx => ?_⟩, fun x hx => ?_⟩
 ·show Sep _ ((ins (kids.set (dn ks k) r.1) (dn ks k + 1) d).map ents)
  rw [zpx, map_set']
  exact i2
 ·rcases zfx hx with rfl | hx
  ·exact n3
  ·rcases List.mem_or_eq_of_mem_set hx with hx | rfl
   ·exact o3 x hx
   ·exact n2
 ·rcases zfx hx with rfl | hx
  ·exact n6
  ·exact w1 x hx
 ·rcases zfx hx with rfl | hx
  ·exact n5
  ·rcases List.mem_or_eq_of_mem_set hx with hx | rfl
   ·exact w2 x hx
   ·exact n4
 ·rcases zfx hx with rfl | hx
  ·exact ⟨n11, n12, n14⟩
  ·rcases List.mem_or_eq_of_mem_set hx with hx | rfl
   ·exact hB x hx
   ·exact ⟨n9, n10, n13⟩
theorem zmo {h : Nat} (kids : List (T h)) {i : Nat} (hi : i < kids.length) (c' : T h) (he : pg c' = pg kids[i]) : (kids.set i c').map pg = kids.map pg := by
 rw [map_set', he]
 exact zy9 _ _ _ (by rw [List.getElem?_map, List.getElem?_eq_getElem hi]; rfl)
theorem zzm {s : Sh} (hs : zua s) {N : Nat} (hN : N ≤ 1024) (k v : K) (hk : k.length = s.kw) (hv : v.length = s.vw) : ∀ {h : Nat} (t : T h) (d : Nat) (g : Sg) (L : List Nat), h < d → Ord t → Wd s t → Below s t → sz t ≤ mx s h → (1 ≤ h → 2 ≤ sz t) → Rep g.W t → (pgs t).Nodup → (∀ x ∈ pgs t, x ∈ L) → Acc N g.S L → L.length + h + 2 < N →
  ∃ g', zk9 N g (pgs t) (znj s N t k v g.S) (putF s N k v d g (pg t : Nat)) g'
 | 0, (p, es), d + 1, g, L, _, hO, hW, hB, hm, h2k, hrep, hnd, hsub, hA, hroom => by
  have hO : Es es := hO
  have hcap := hs.cap
  have hm : es.length ≤ s.cap := hm
  have hpL : p ∈ L := hsub p (.head _)
  obtain ⟨hp1, hp2⟩ := hA.low p hpL
  have h0 : g.S 0 = true := (hA.is 0 (by omega)).2 (.inl rfl)
  have hpS : g.S p = true := (hA.is p hp2).2 (.inr hpL)
  have hmay : zfs s (zal (zbk p es)) := zce (zbk p es) hO hW hm (fun h => by omega) fun x hx => by rw [List.mem_singleton.1 hx]; exact ⟨hp1, Nat.lt_of_lt_of_le hp2 hN⟩
  have hload : zen s N g (p : Nat) = .ok (zal (zbk p es)) := zec (t := zbk p es) hs.kw hrep hmay hp1 hp2
  have hl := zhu es k v
  obtain ⟨f1, f2, f3, f4, f5⟩ := hA.free (by omega)
  obtain ⟨g', hg⟩ := zjz hs hN (zbk p (zfl es k v)) g (zsv (e := es) hO) (fun q hq => by
   rcases zi9 hq with rfl | hq
   ·exact ⟨hk, hv⟩
   ·exact hW q hq) trivial (by show (zfl es k v).length ≤ s.cap + s.cap / 2; omega) (fun h => by omega) (fun x hx => by rw [List.mem_singleton.1 hx]; exact ⟨hp1, hp2, hpS⟩) (List.pairwise_singleton _ _) ⟨_, f2, f1⟩ h0 trivial
  refine ⟨g', ?_⟩
  have e : putF s N k v (d + 1) g (p : Nat) = zcd s N g p (zal (zbk p (zfl es k v))) := by
   rw [putF, hload]
   show (if (zal (zbk p es)).leaf = true then zcd s N g ((p : Nat) : Int).toNat (zw5 (zal (zbk p es)) k v) else (do
    let (gr, g1) ← putF s N k v d g ((zal (zbk p es)).kids.getD (dn (zal (zbk p es)).keys k) 0 : Nat)
    if gr.2 = 0 then return (gr, g1)
    else zcd s N g1 ((p : Nat) : Int).toNat (iNd (ins (zal (zbk p es)).keys (dn (zal (zbk p es)).keys k) gr.1) (ins (zal (zbk p es)).kids (dn (zal (zbk p es)).keys k + 1) gr.2)))) = _
   rw [if_pos (show (zal (zbk p es)).leaf = true from rfl), qhn hO, Int.toNat_natCast]
  show zk9 N g [p] (zcc s N g.S (zbk p (zfl es k v))) (putF s N k v (d + 1) g (p : Nat)) g'
  rw [e]
  exact hg
 | h + 1, (p, ks, kids), d + 1, g, L, hd, hO, hW, hB, hm, h2k, hrep, hnd, hsub, hA, hroom => by
  have hpL : p ∈ L := hsub p (.head _)
  obtain ⟨hp1, hp2⟩ := hA.low p hpL
  have h0 : g.S 0 = true := (hA.is 0 (by omega)).2 (.inl rfl)
  have hpS : g.S p = true := (hA.is p hp2).2 (.inr hpL)
  have h2k' : 2 ≤ kids.length := h2k (Nat.succ_pos _)
  have hm' : kids.length ≤ s.fan := hm
  have hfan := hs.fan
  obtain ⟨nd1, nd2⟩ := List.nodup_cons.1 (show (p :: kids.flatMap pgs).Nodup from hnd)
  have hl : (kids.map ents).length = ks.length + 1 := hO.2.1.len
  rw [List.length_map] at hl
  have hi : dn ks k < kids.length := by have := znq ks k; omega
  have hc : kids[dn ks k]? = some kids[dn ks k] := List.getElem?_eq_getElem hi
  have hcm := List.getElem_mem hi
  have hB' : ∀ x ∈ kids, mx s h / 2 ≤ sz x ∧ sz x ≤ mx s h ∧ Below s x := hB
  have hrep' : ∀ x ∈ kids, Rep g.W x := hrep.2
  have hin : ∀ x ∈ kids, ∀ y ∈ pgs x, y ∈ kids.flatMap pgs := fun x hx y hy => List.mem_flatMap.2 ⟨x, hx, hy⟩
  have hmay : zfs s (zal (zaw p ks kids)) := zce (zaw p ks kids) hO hW hm h2k fun x hx => by
   have := hA.low x (hsub x hx)
   exact ⟨this.1, by omega⟩
  have hload : zen s N g (p : Nat) = .ok (zal (zaw p ks kids)) := zec (t := zaw p ks kids) hs.kw hrep hmay hp1 hp2
  have hcnd : (pgs kids[dn ks k]).Nodup := by
   have := nd2
   rw [zne kids hi, List.flatMap_append, List.flatMap_cons, List.nodup_append] at this
   exact (List.nodup_append.1 this.2.1).1
  obtain ⟨g1, hg1⟩ := zzm hs hN k v hk hv kids[dn ks k] d g L (by omega) (hO.2.2 _ hcm) (hW.2 _ hcm) (hB' _ hcm).2.2 (hB' _ hcm).2.1 (fun h1 => by
   have := (hB' _ hcm).1
   cases h with
   | zero => omega
   | succ h => have e : mx s (h + 1) = s.fan := rfl; omega) (hrep' _ hcm) hcnd (fun x hx => hsub x (.tail _ (hin _ hcm x hx))) hA (by omega)
  obtain ⟨hok, -⟩ := zqx s N hs.h2 k v hk hv kids[dn ks k] g.S (hO.2.2 _ hcm) (hW.2 _ hcm) (hB' _ hcm).2.2 (hB' _ hcm).2.1
  obtain ⟨N1, f1, p1, a1⟩ := zzp s N k v kids[dn ks k] g.S (fun _ => trivial)
  have hA1 := a1 L (by omega) hA
  have hput : znj s N (zaw p ks kids) k v g.S = match znj s N kids[dn ks k] k v g.S with
   | (c', none, S') => (zaw p ks (kids.set (dn ks k) c'), none, S')
   | (c', some (q, d), S') => zcc s N S' (zaw p (ins ks (dn ks k) q) (ins (kids.set (dn ks k) c') (dn ks k + 1) d)) := by
   simp only [znj, zaw, hc]
   rfl
  have hkd : (zal (zaw p ks kids)).kids.getD (dn ks k) 0 = pg kids[dn ks k] := by
   show (kids.map pg).getD (dn ks k) 0 = _
   rw [List.getD_eq_getElem?_getD, List.getElem?_map, hc]; rfl
  have hF : putF s N k v (d + 1) g (p : Nat) = (do
    let (gr, g1) ← putF s N k v d g (pg kids[dn ks k] : Nat)
    if gr.2 = 0 then return (gr, g1)
    else zcd s N g1 p (iNd (ins ks (dn ks k) gr.1) (ins (kids.map pg) (dn ks k + 1) gr.2))) := by
   rw [putF, hload, ← hkd]
   rfl
  show ∃ g', zk9 N g (pgs (zaw p ks kids)) (znj s N (zaw p ks kids) k v g.S) (putF s N k v (d + 1) g (p : Nat)) g'
  rw [hput, hF]
  obtain ⟨⟨c', go, S'⟩, hr⟩ : ∃ r, znj s N kids[dn ks k] k v g.S = r := ⟨_, rfl⟩
  rw [hr] at hg1 hok p1 hA1 ⊢
  have hpc : pg c' = pg kids[dn ks k] := hok.page
  have hg1S : g1.S = S' := hg1.S
  have hg1r : Rep g1.W c' := hg1.rep
  -- the other children lie as they lay
  have hother : ∀ x ∈ kids.set (dn ks k) c', Rep g1.W x := fun x hx => by
   obtain ⟨j, hj, rfl⟩ := List.getElem_of_mem hx
   rw [List.length_set] at hj
   rw [List.getElem_set]
   split
   ·exact hg1r
   ·rename_i hne
    refine (hrep' _ (List.getElem_mem hj)).frame fun y hy => ?_
    have hyL := hsub y (.tail _ (hin _ (List.getElem_mem hj) y hy))
    exact hg1.frame y (hA.low y hyL).2 (zus nd2 hj hi (fun e => hne e.symm) y hy) ((hA.is y (hA.low y hyL).2).2 (.inr hyL))
  have hfr : ∀ x, x < N → x ∉ pgs (zaw p ks kids) → g.S x = true → g1.W x = g.W x := fun x hx hxp hxS => hg1.frame x hx (fun h => hxp (.tail _ (hin _ hcm x h))) hxS
  cases go with
  | none =>
   have ho := hg1.none rfl
   rw [ho]
   refine ⟨g1, fun _ => rfl, fun q d h => (nomatch h), ⟨?_, hother⟩, hg1S, hfr⟩
   show g1.W p = zcg (iNd ks ((kids.set (dn ks k) c').map pg))
   rw [zmo kids hi c' hpc, hg1.frame p hp2 (fun h => nd1 (hin _ hcm p h)) hpS]
   exact hrep.1
  | some go =>
   obtain ⟨q, dd⟩ := go
   obtain ⟨ho, hrd, hd1⟩ := hg1.some q dd rfl
   rw [ho]
   have hne : ¬ (pg dd = 0) := by omega
   show ∃ g', zk9 N g (pgs (zaw p ks kids)) _ (if pg dd = 0 then _ else zcd s N g1 p (iNd (ins ks (dn ks k) q) (ins (kids.map pg) (dn ks k + 1) (pg dd)))) g'
   rw [if_neg hne]
   obtain ⟨i1, i2, i3⟩ := qhp hs.h2 (p := p) hO hW hB (k := k) (v := v) hi hok rfl rfl
   have p1 : (pgs c' ++ pgs dd).Perm (N1 ++ pgs kids[dn ks k]) := p1
   have hperm : (pgs (zaw p (ins ks (dn ks k) q) (ins (kids.set (dn ks k) c') (dn ks k + 1) dd))).Perm (N1 ++ pgs (zaw p ks kids)) := by
    show (p :: (ins (kids.set (dn ks k) c') (dn ks k + 1) dd).flatMap pgs).Perm (N1 ++ p :: kids.flatMap pgs)
    refine (List.Perm.cons _ ?_).trans List.perm_middle.symm
    refine (zkw _ _ _).trans ?_
    have e1 : kids.flatMap pgs = (kids.take (dn ks k)).flatMap pgs ++ (pgs kids[dn ks k] ++ (kids.drop (dn ks k + 1)).flatMap pgs) := by
     conv => lhs; rw [zne kids hi]
     rw [List.flatMap_append, List.flatMap_cons]
    have e2 : (kids.set (dn ks k) c').flatMap pgs = (kids.take (dn ks k)).flatMap pgs ++ (pgs c' ++ (kids.drop (dn ks k + 1)).flatMap pgs) := by
     conv => lhs; rw [zne (kids.set (dn ks k) c') (j := dn ks k) (by rw [List.length_set]; exact hi)]
     rw [List.flatMap_append, List.flatMap_cons, List.getElem_set_self, List.take_set_of_le (by omega), List.drop_set_of_lt (by omega)]
    rw [e1, e2]
    have hp2 : (pgs dd ++ pgs c').Perm (N1 ++ pgs kids[dn ks k]) := List.perm_append_comm.trans p1
    generalize (kids.take (dn ks k)).flatMap pgs = A
    generalize (kids.drop (dn ks k + 1)).flatMap pgs = B
    refine (List.perm_append_comm_assoc _ _ _).trans ?_
    refine List.Perm.trans ?_ (List.perm_append_comm_assoc _ _ _)
    refine List.Perm.append_left _ ?_
    rw [← List.append_assoc, ← List.append_assoc]
    exact List.Perm.append_right _ hp2
   have hA1 : Acc N g1.S (N1 ++ L) := by rw [hg1S]; exact hA1
   have hN1 := List.nodup_append.1 hA1.nodup
   have hin2 : ∀ x ∈ pgs (zaw p (ins ks (dn ks k) q) (ins (kids.set (dn ks k) c') (dn ks k + 1) dd)), x ∈ N1 ++ L := fun x hx => by
    rcases List.mem_append.1 (hperm.mem_iff.1 hx) with h | h
    ·exact List.mem_append_left _ h
    ·exact List.mem_append_right _ (hsub x h)
   have hnd2 : (pgs (zaw p (ins ks (dn ks k) q) (ins (kids.set (dn ks k) c') (dn ks k + 1) dd))).Nodup := hperm.nodup_iff.2 (List.nodup_append.2 ⟨hN1.1, hnd, fun a ha b hb => hN1.2.2 a ha b (hsub b hb)⟩)
   obtain ⟨r1, r2, r3, r4, r5⟩ := hA1.free (by rw [List.length_append]; omega)
   obtain ⟨g2, hg2⟩ := zjz hs hN (zaw p (ins ks (dn ks k) q) (ins (kids.set (dn ks k) c') (dn ks k + 1) dd)) g1 i1 i2 i3 (by
    show (ins (kids.set (dn ks k) c') (dn ks k + 1) dd).length ≤ s.fan + s.fan / 2
    rw [zfv, List.length_set]; omega) (fun _ => by
    show 2 ≤ (ins (kids.set (dn ks k) c') (dn ks k + 1) dd).length
    rw [zfv, List.length_set]; omega) (fun x hx => by
    have := hA1.low x (hin2 x hx)
    exact ⟨this.1, this.2, (hA1.is x this.2).2 (.inr (hin2 x hx))⟩) hnd2 ⟨_, r2, r1⟩ ((hA1.is 0 (by omega)).2 (.inl rfl)) (fun x hx => by
    rcases zfx hx with rfl | hx
    ·exact hrd
    ·exact hother x hx)
   have hnode : zal (zaw p (ins ks (dn ks k) q) (ins (kids.set (dn ks k) c') (dn ks k + 1) dd)) = iNd (ins ks (dn ks k) q) (ins (kids.map pg) (dn ks k + 1) (pg dd)) := by
    show iNd (ins ks (dn ks k) q) ((ins (kids.set (dn ks k) c') (dn ks k + 1) dd).map pg) = _
    rw [zpx, zmo kids hi c' hpc]
   rw [hnode] at hg2
   refine ⟨g2, ?_⟩
   have hg2 : zk9 N g1 (pgs (zaw p (ins ks (dn ks k) q) (ins (kids.set (dn ks k) c') (dn ks k + 1) dd))) (zcc s N S' (zaw p (ins ks (dn ks k) q) (ins (kids.set (dn ks k) c') (dn ks k + 1) dd))) (zcd s N g1 p (iNd (ins ks (dn ks k) q) (ins (kids.map pg) (dn ks k + 1) (pg dd)))) g2 := by rw [← hg1S]; exact hg2
   refine ⟨hg2.none, hg2.some, hg2.rep, hg2.S, fun x hx hxp hxS => ?_⟩
   have hxL : x = 0 ∨ x ∈ L := (hA.is x hx).1 hxS
   rw [hg2.frame x hx (fun h => ?_) ((hA1.is x hx).2 (hxL.imp id fun h => List.mem_append_right _ h)), hfr x hx hxp hxS]
   rcases List.mem_append.1 (hperm.mem_iff.1 h) with h | h
   ·rcases hxL with rfl | hxL
    ·have := (hA1.low 0 (List.mem_append_left _ h)).1
     omega
    ·exact hN1.2.2 x h x hxL rfl
   ·exact hxp h
def zht (s : Sh) (n : Nd) : Bool := if n.leaf then decide (n.keys.length < s.cap / 2) else decide (n.kids.length < s.fan / 2)
def zcl (a b : Nd) (key : K) : Nd := if a.leaf then lNd (a.keys ++ b.keys) (a.vals ++ b.vals) else iNd (a.keys ++ key :: b.keys) (a.kids ++ b.kids)
def zsr (s : Sh) (n : Nd) : Bool := (n.leaf && decide (s.cap < n.keys.length)) || decide (s.fan < n.kids.length)
noncomputable section
def zgy (s : Sh) (N : Nat) (g : Sg) (n : Nd) (i : Nat) : Except Nat (Nd × Sg) := do
 let x ← zen s N g (n.kids.getD (i - 1) 0 : Nat)
 let y ← zen s N g (n.kids.getD (i - 1 + 1) 0 : Nat)
 if x.leaf ≠ y.leaf then .error 12
 else if zsr s (zcl x y (n.keys.getD (i - 1) [])) then do
  let g1 ← zfy N g (n.kids.getD (i - 1 + 1) 0)
  let (gr, g2) ← zcd s N g1 (n.kids.getD (i - 1) 0) (zcl x y (n.keys.getD (i - 1) []))
  return (iNd (n.keys.set (i - 1) gr.1) (n.kids.set (i - 1 + 1) gr.2), g2)
 else do
  let g1 ← zfy N g (n.kids.getD (i - 1 + 1) 0)
  let g2 ← zb7 s N g1 (n.kids.getD (i - 1) 0) (zcl x y (n.keys.getD (i - 1) []))
  return (iNd (n.keys.eraseIdx (i - 1)) (n.kids.eraseIdx (i - 1 + 1)), g2)
def zdz (s : Sh) (N : Nat) (key : K) : Nat → Sg → Int → Except Nat ((Nd × Bool) × Sg)
 | 0, _, _ => .error 12
 | d + 1, g, at_ => do
  let n ← zen s N g at_
  if n.leaf then
   if fd n.keys key then return ((lNd (n.keys.eraseIdx (lb n.keys key)) (n.vals.eraseIdx (lb n.keys key)), true), g)
   else return ((n, false), g)
  else do
   let (r, g1) ← zdz s N key d g (n.kids.getD (dn n.keys key) 0 : Nat)
   if r.2 then do
    let g2 ← zb7 s N g1 (n.kids.getD (dn n.keys key) 0) r.1
    if zht s r.1 then do
     let (n', g3) ← zgy s N g2 n (dn n.keys key)
     return ((n', true), g3)
    else return ((n, true), g2)
   else return ((n, false), g1)
end
def zz4 (W : Nat → Bys) : {h : Nat} → T h → Prop
 | 0, _ => True
 | _ + 1, t => ∀ x ∈ t.2.2, Rep W x
theorem Rep.kids {W : Nat → Bys} : ∀ {h : Nat} {t : T h}, Rep W t → zz4 W t
 | 0, _, _ => trivial
 | _ + 1, _, h => h.2
theorem Rep.mk' {W : Nat → Bys} : ∀ {h : Nat} {t : T h}, W (pg t) = zcg (zal t) → zz4 W t → Rep W t
 | 0, _, h, _ => h
 | _ + 1, _, h, k => ⟨h, k⟩
theorem zz4.frame {W W' : Nat → Bys} : ∀ {h : Nat} {t : T h}, zz4 W t → (∀ x ∈ pgs t, x ≠ pg t → W' x = W x) → (pgs t).Nodup → zz4 W' t
 | 0, _, _, _, _ => trivial
 | h + 1, (p, ks, kids), hr, hf, hn => fun x hx => by
  obtain ⟨n1, -⟩ := List.nodup_cons.1 (show (p :: kids.flatMap pgs).Nodup from hn)
  have hr : ∀ x ∈ kids, Rep W x := hr
  refine (hr x hx).frame fun y hy => ?_
  have hm := List.mem_flatMap.2 ⟨x, hx, hy⟩
  exact hf y (.tail _ hm) (fun e => n1 (by rw [← show y = p from e]; exact hm))
theorem zvg : ∀ {h : Nat} (t : T h), (zal t).leaf = decide (h = 0)
 | 0, _ => rfl
 | _ + 1, _ => rfl
theorem zwp : ∀ {h : Nat} (a b : T h) (q : K), zcl (zal a) (zal b) q = zal (zcq a b q)
 | 0, (_, ea), (_, eb), _ => by
  show lNd (List.map (fun q : K × K => q.1) ea ++ List.map (fun q : K × K => q.1) eb) (List.map (fun q : K × K => q.2) ea ++ List.map (fun q : K × K => q.2) eb) = lNd (List.map (fun q : K × K => q.1) (ea ++ eb)) (List.map (fun q : K × K => q.2) (ea ++ eb))
  rw [List.map_append, List.map_append]
 | _ + 1, (_, ka, xa), (_, kb, xb), q => by
  show iNd (ka ++ q :: kb) (xa.map pg ++ xb.map pg) = iNd (ka ++ q :: kb) ((xa ++ xb).map pg)
  rw [List.map_append]
theorem qgh (s : Sh) : ∀ {h : Nat} (t : T h), zsr s (zal t) = decide (mx s h < sz t)
 | 0, (_, es) => by
  show (true && decide (s.cap < (List.map (fun q : K × K => q.1) es).length) || decide (s.fan < 0)) = decide (s.cap < es.length)
  rw [List.length_map, Bool.true_and, decide_eq_false (Nat.not_lt_zero _), Bool.or_false]
 | _ + 1, (_, ks, kids) => by
  show (false && _ || decide (s.fan < (kids.map pg).length)) = decide (s.fan < kids.length)
  rw [List.length_map, Bool.false_and, Bool.false_or]
theorem zpu (s : Sh) : ∀ {h : Nat} (t : T h), zht s (zal t) = decide (sz t < mx s h / 2)
 | 0, (_, es) => by
  show decide ((List.map (fun q : K × K => q.1) es).length < s.cap / 2) = decide (es.length < s.cap / 2)
  rw [List.length_map]
 | _ + 1, (_, ks, kids) => by
  show decide ((kids.map pg).length < s.fan / 2) = decide (kids.length < s.fan / 2)
  rw [List.length_map]
theorem qfh {W : Nat → Bys} : ∀ {h : Nat} (a b : T h) (q : K), zz4 W a → zz4 W b → zz4 W (zcq a b q)
 | 0, _, _, _, _, _ => trivial
 | _ + 1, (_, _, _), (_, _, _), _, ha, hb => fun x hx => (List.mem_append.1 hx).elim (ha x) (hb x)
theorem qbw {W : Nat → Bys} : ∀ {h : Nat} (t : T h), zz4 W t → (match h, t with | 0, _ => True | _ + 1, t => ∀ x ∈ t.2.2, Rep W x)
 | 0, _, _ => trivial
 | _ + 1, _, h => h
theorem qdp (X : List Nat) (a : Nat) (Y : List Nat) : (X ++ a :: Y).getD X.length 0 = a := by
 rw [List.getD_eq_getElem?_getD, zvc]; rfl
theorem qcg (X : List Nat) (a b : Nat) (Y : List Nat) : (X ++ a :: b :: Y).getD (X.length + 1) 0 = b := by
 rw [List.getD_eq_getElem?_getD, zsy]; rfl
theorem qlm (s : Sh) (n : Nat) (S : Nat → Bool) (p : Nat) {h : Nat} {P R : List K} {q0 : K} {X Y : List (T h)} {a b : T h} (hl : X.length = P.length) (i : Nat) (hi : i - 1 = X.length) : zg5 s n S p (P ++ q0 :: R) (X ++ a :: b :: Y) i =
   if mx s h < sz a + sz b then
    match zcc s n (us S (pg b) false) (zcq a b q0) with
    | (l, some (q, d), S') => (zaw p (P ++ q :: R) (X ++ l :: d :: Y), S')
    | (_, none, S') => (zaw p (P ++ q0 :: R) (X ++ a :: b :: Y), S')
   else (zaw p (P ++ R) (X ++ zcq a b q0 :: Y), us S (pg b) false) := by
 have e1 : ∀ l, (X ++ a :: b :: Y).set X.length l = X ++ l :: b :: Y := fun l => zl8 X a l (b :: Y)
 have e2 : ∀ l d, (X ++ l :: b :: Y).set (X.length + 1) d = X ++ l :: d :: Y := fun l d => znw X l b d Y
 have e3 : ∀ q, (P ++ q0 :: R).set X.length q = P ++ q :: R := fun q => by rw [hl]; exact zl8 P q0 q R
 have e4 : (P ++ q0 :: R).eraseIdx X.length = P ++ R := by rw [hl]; exact zzl P q0 R
 have e5 : (P ++ q0 :: R).getD X.length [] = q0 := by rw [hl]; exact ztd P q0 R
 have e6 : ∀ l, (X ++ l :: b :: Y).eraseIdx (X.length + 1) = X ++ l :: Y := fun l => zt8 X l b Y
 unfold zg5
 rw [hi, zvc, zsy]
 simp only [e1, e2, e3, e4, e5, e6, zgj]
 rfl
theorem qa2 (s : Sh) (n : Nat) : ∀ {h : Nat} (t : T h) (S : Nat → Bool), (zcc s n S t).2.1 = none → sz t ≤ mx s h
 | 0, (tp, te), S, hn => by
  change (zcc s n S (zbk tp te)).2.1 = none at hn
  rw [zlz] at hn
  split at hn
  ·rename_i hc; exact hc
  ·cases hn
 | h + 1, (tp, tk, tc), S, hn => by
  change (zcc s n S (zaw tp tk tc)).2.1 = none at hn
  rw [zlr] at hn
  split at hn
  ·rename_i hc; exact hc
  ·cases hn
theorem qa7 {s : Sh} (hs : zua s) {N : Nat} (hN : N ≤ 1024) {h : Nat} {p : Nat} {P R : List K} {q0 : K} {X Y : List (T h)} {a b : T h} (hl : X.length = P.length) (g : Sg) (oa : Ord a) (ob : Ord b) (wa : Wd s a) (wb : Wd s b) (hq : q0.length = s.kw) (ba : Below s a) (bb : Below s b) (la : ze6 (ents a) q0) (gb : zgn (ents b) q0)
  (sa : sz a ≤ mx s h) (sb : sz b ≤ mx s h) (ta : 1 ≤ h → 2 ≤ sz a) (tb : 1 ≤ h → 2 ≤ sz b) (hab : sz a + sz b ≤ mx s h + mx s h / 2) (hr : ∀ x ∈ X ++ a :: b :: Y, Rep g.W x) (hnd : ((X ++ a :: b :: Y).flatMap pgs).Nodup) (hp : ∀ x ∈ (X ++ a :: b :: Y).flatMap pgs, 1 ≤ x ∧ x < N ∧ g.S x = true) (h0 : g.S 0 = true) (i : Nat) (hi : i - 1 = X.length) :
  ∃ g', zgy s N g (iNd (P ++ q0 :: R) ((X ++ a :: b :: Y).map pg)) i = .ok (zal (zg5 s N g.S p (P ++ q0 :: R) (X ++ a :: b :: Y) i).1, g') ∧ zz4 g'.W (zg5 s N g.S p (P ++ q0 :: R) (X ++ a :: b :: Y) i).1 ∧ g'.S = (zg5 s N g.S p (P ++ q0 :: R) (X ++ a :: b :: Y) i).2 ∧
   ∀ x, x < N → x ∉ (X ++ a :: b :: Y).flatMap pgs → g.S x = true → g'.W x = g.W x := by
 have hma : a ∈ X ++ a :: b :: Y := List.mem_append_right _ (.head _)
 have hmb : b ∈ X ++ a :: b :: Y := List.mem_append_right _ (.tail _ (.head _))
 have hin : ∀ x ∈ X ++ a :: b :: Y, ∀ y ∈ pgs x, y ∈ (X ++ a :: b :: Y).flatMap pgs := fun x hx y hy => List.mem_flatMap.2 ⟨x, hx, hy⟩
 have hlow : ∀ x ∈ X ++ a :: b :: Y, ∀ y ∈ pgs x, 1 ≤ y ∧ y < 1024 := fun x hx y hy => by
  have := hp y (hin x hx y hy)
  exact ⟨this.1, by omega⟩
 obtain ⟨hpa1, hpa2, hpa3⟩ := hp (pg a) (hin a hma _ (zcb a))
 obtain ⟨hpb1, hpb2, hpb3⟩ := hp (pg b) (hin b hmb _ (zcb b))
 have loadA : zen s N g (pg a : Nat) = .ok (zal a) := zec hs.kw (hr a hma) (zce a oa wa sa ta (hlow a hma)) hpa1 hpa2
 have loadB : zen s N g (pg b : Nat) = .ok (zal b) := zec hs.kw (hr b hmb) (zce b ob wb sb tb (hlow b hmb)) hpb1 hpb2
 have hmap : (X ++ a :: b :: Y).map pg = X.map pg ++ pg a :: pg b :: Y.map pg := by rw [List.map_append, List.map_cons, List.map_cons]
 have hXl : (X.map pg).length = i - 1 := by rw [List.length_map, hi]
 have k1 : (iNd (P ++ q0 :: R) ((X ++ a :: b :: Y).map pg)).kids.getD (i - 1) 0 = pg a := by
  show ((X ++ a :: b :: Y).map pg).getD (i - 1) 0 = _
  rw [hmap, ← hXl, qdp]
 have k2 : (iNd (P ++ q0 :: R) ((X ++ a :: b :: Y).map pg)).kids.getD (i - 1 + 1) 0 = pg b := by
  show ((X ++ a :: b :: Y).map pg).getD (i - 1 + 1) 0 = _
  rw [hmap, ← hXl, qcg]
 have k3 : (iNd (P ++ q0 :: R) ((X ++ a :: b :: Y).map pg)).keys.getD (i - 1) [] = q0 := by
  show (P ++ q0 :: R).getD (i - 1) [] = _
  rw [hi, hl, ztd]
 -- the pages are apart
 have hperm : ((X ++ a :: b :: Y).flatMap pgs).Perm (pg b :: (pgs (zcq a b q0) ++ (X.flatMap pgs ++ Y.flatMap pgs))) := by
  rw [List.flatMap_append, List.flatMap_cons, List.flatMap_cons]
  refine List.Perm.trans (l₂ := (pgs a ++ pgs b) ++ (X.flatMap pgs ++ Y.flatMap pgs)) ?_ ?_
  ·rw [List.append_assoc]
   refine (List.perm_append_comm_assoc _ _ _).trans (List.Perm.append_left _ ?_)
   exact List.perm_append_comm_assoc _ _ _
  ·rw [← List.cons_append]
   exact List.Perm.append_right _ (qao a b q0)
 have hnd' := hperm.nodup_iff.1 hnd
 obtain ⟨d1, d2⟩ := List.nodup_cons.1 hnd'
 obtain ⟨d3, d4, d5⟩ := List.nodup_append.1 d2
 have hjin : ∀ x ∈ pgs (zcq a b q0), x ∈ (X ++ a :: b :: Y).flatMap pgs := fun x hx => hperm.mem_iff.2 (.tail _ (List.mem_append_left _ hx))
 have hjp : ∀ x ∈ pgs (zcq a b q0), 1 ≤ x ∧ x < N ∧ us g.S (pg b) false x = true := fun x hx => by
  have h1 := hp x (hjin x hx)
  refine ⟨h1.1, h1.2.1, ?_⟩
  unfold us
  rw [if_neg (fun e => d1 (by rw [← e]; exact List.mem_append_left _ hx))]
  exact h1.2.2
 have hO := zy5 s hs.h2 a b q0 oa ob ba bb la gb
 have hW := qfz s a b q0 wa wb hq
 have hB := zq5 s a b q0 ba bb
 have hT : 1 ≤ h → 2 ≤ sz (zcq a b q0) := fun h1 => by rw [zgj]; have := ta h1; omega
 have hK := qfh a b q0 (hr a hma).kids (hr b hmb).kids
 have hoth : ∀ x, (x ∈ X ∨ x ∈ Y) → ∀ y ∈ pgs x, y < N ∧ y ∉ pgs (zcq a b q0) ∧ us g.S (pg b) false y = true ∧ y ≠ pg a := fun x hx y hy => by
  have hyXY : y ∈ X.flatMap pgs ++ Y.flatMap pgs := by
   rcases hx with hx | hx
   ·exact List.mem_append_left _ (List.mem_flatMap.2 ⟨x, hx, hy⟩)
   ·exact List.mem_append_right _ (List.mem_flatMap.2 ⟨x, hx, hy⟩)
  have hyin : y ∈ (X ++ a :: b :: Y).flatMap pgs := hperm.mem_iff.2 (.tail _ (List.mem_append_right _ hyXY))
  have hnj : y ∉ pgs (zcq a b q0) := fun h => d5 y h y hyXY rfl
  refine ⟨(hp y hyin).2.1, hnj, ?_, fun e => hnj ?_⟩
  ·unfold us
   rw [if_neg (fun e => d1 (by rw [← e]; exact List.mem_append_right _ hyXY))]
   exact (hp y hyin).2.2
  ·rw [e, ← zmc a b q0]; exact zcb _
 have hrX : ∀ x, (x ∈ X ∨ x ∈ Y) → Rep g.W x := fun x hx => hr x (hx.elim (fun h => List.mem_append_left _ h) fun h => List.mem_append_right _ (.tail _ (.tail _ h)))
 have hdrop : zfy N g (pg b) = .ok { g with S := us g.S (pg b) false } := by
  unfold zfy
  rw [if_pos ⟨hpb1, hpb2, hpb3⟩]
 have hlf : ¬ ((zal a).leaf ≠ (zal b).leaf) := by rw [zvg, zvg]; exact fun h => h rfl
 have hF : zgy s N g (iNd (P ++ q0 :: R) ((X ++ a :: b :: Y).map pg)) i =
   if mx s h < sz a + sz b then (do
    let (gr, g2) ← zcd s N { g with S := us g.S (pg b) false } (pg a) (zal (zcq a b q0))
    return (iNd ((P ++ q0 :: R).set (i - 1) gr.1) (((X ++ a :: b :: Y).map pg).set (i - 1 + 1) gr.2), g2))
   else (do
    let g2 ← zb7 s N { g with S := us g.S (pg b) false } (pg a) (zal (zcq a b q0))
    return (iNd ((P ++ q0 :: R).eraseIdx (i - 1)) (((X ++ a :: b :: Y).map pg).eraseIdx (i - 1 + 1)), g2)) := by
  unfold zgy
  rw [k1, k2, k3, loadA]
  show (do
   let y ← zen s N g (pg b : Nat)
   if (zal a).leaf ≠ y.leaf then Except.error 12
   else if zsr s (zcl (zal a) y q0) then do
    let g1 ← zfy N g (pg b)
    let (gr, g2) ← zcd s N g1 (pg a) (zcl (zal a) y q0)
    return (iNd ((P ++ q0 :: R).set (i - 1) gr.1) (((X ++ a :: b :: Y).map pg).set (i - 1 + 1) gr.2), g2)
   else do
    let g1 ← zfy N g (pg b)
    let g2 ← zb7 s N g1 (pg a) (zcl (zal a) y q0)
    return (iNd ((P ++ q0 :: R).eraseIdx (i - 1)) (((X ++ a :: b :: Y).map pg).eraseIdx (i - 1 + 1)), g2)) = _
  rw [loadB]
  show (if (zal a).leaf ≠ (zal b).leaf then Except.error 12
   else if zsr s (zcl (zal a) (zal b) q0) then do
    let g1 ← zfy N g (pg b)
    let (gr, g2) ← zcd s N g1 (pg a) (zcl (zal a) (zal b) q0)
    return (iNd ((P ++ q0 :: R).set (i - 1) gr.1) (((X ++ a :: b :: Y).map pg).set (i - 1 + 1) gr.2), g2)
   else do
    let g1 ← zfy N g (pg b)
    let g2 ← zb7 s N g1 (pg a) (zcl (zal a) (zal b) q0)
    return (iNd ((P ++ q0 :: R).eraseIdx (i - 1)) (((X ++ a :: b :: Y).map pg).eraseIdx (i - 1 + 1)), g2)) = _
  rw [if_neg hlf, zwp, qgh, zgj, hdrop]
  by_cases hw : mx s h < sz a + sz b
  ·rw [decide_eq_true hw, if_pos rfl, if_pos hw]; rfl
  ·rw [decide_eq_false hw, if_neg Bool.false_ne_true, if_neg hw]; rfl
 rw [hF, qlm s N g.S p hl i hi]
 by_cases hw : mx s h < sz a + sz b
 ·rw [if_pos hw, if_pos hw]
  have h0' : us g.S (pg b) false 0 = true := by
   unfold us
   rw [if_neg (by omega)]
   exact h0
  obtain ⟨g2, hg2⟩ := zjz hs hN (zcq a b q0) { g with S := us g.S (pg b) false } hO hW hB (by rw [zgj]; exact hab) hT hjp d3 ⟨pg b, hpb2, if_pos rfl⟩ h0' (qbw _ hK)
  rw [zmc] at hg2
  obtain ⟨⟨l, go, S'⟩, hsp⟩ : ∃ r, zcc s N (us g.S (pg b) false) (zcq a b q0) = r := ⟨_, rfl⟩
  have hne : go ≠ none := fun e => by
   have := qa2 s N (zcq a b q0) (us g.S (pg b) false) (by rw [hsp]; exact e)
   rw [zgj] at this
   omega
  have hlp : pg l = pg a := by
   have := (zn3 s N (us g.S (pg b) false) (zcq a b q0) hO hW hB (by rw [zgj]; exact hab) (hs.h2 h)).page
   rw [hsp, zmc] at this
   exact this
  have hg2 : zk9 N { g with S := us g.S (pg b) false } (pgs (zcq a b q0)) (l, go, S') (zcd s N { g with S := us g.S (pg b) false } (pg a) (zal (zcq a b q0))) g2 := by rw [← hsp]; exact hg2
  rw [hsp]
  match go, hne, hg2 with
  | some (q, d), _, hg2 =>
   obtain ⟨ho, hrd, -⟩ := hg2.some q d rfl
   rw [ho]
   refine ⟨g2, ?_, fun x hx => ?_, hg2.S, fun x hx hxn hxS => ?_⟩
   ·show Except.ok (iNd ((P ++ q0 :: R).set (i - 1) q) (((X ++ a :: b :: Y).map pg).set (i - 1 + 1) (pg d)), g2) = .ok (iNd (P ++ q :: R) ((X ++ l :: d :: Y).map pg), g2)
    rw [show (P ++ q0 :: R).set (i - 1) q = P ++ q :: R by rw [hi, hl]; exact zl8 P q0 q R, hmap, ← hXl, znw, List.map_append, List.map_cons, List.map_cons, hlp]
   ·rcases List.mem_append.1 hx with hx | hx
    ·exact (hrX x (.inl hx)).frame fun y hy => by
      obtain ⟨o1, o2, o3, -⟩ := hoth x (.inl hx) y hy
      exact hg2.frame y o1 o2 o3
    ·rcases List.mem_cons.1 hx with rfl | hx
     ·exact hg2.rep
     ·rcases List.mem_cons.1 hx with rfl | hx
      ·exact hrd
      ·exact (hrX x (.inr hx)).frame fun y hy => by
        obtain ⟨o1, o2, o3, -⟩ := hoth x (.inr hx) y hy
        exact hg2.frame y o1 o2 o3
   ·refine hg2.frame x hx (fun h => hxn (hjin x h)) ?_
    show us g.S (pg b) false x = true
    unfold us
    rw [if_neg (fun e => hxn (by rw [e]; exact hin b hmb _ (zcb b)))]
    exact hxS
 ·rw [if_neg hw, if_neg hw]
  have hmay : zfs s (zal (zcq a b q0)) := zce (zcq a b q0) hO hW (by rw [zgj]; omega) hT fun x hx => by
   have := hjp x hx
   exact ⟨this.1, by omega⟩
  rw [zcn hmay hpa1 hpa2]
  refine ⟨⟨wr g.W (pg a) (zcg (zal (zcq a b q0))), us g.S (pg b) false⟩, ?_, fun x hx => ?_, rfl, fun x hx hxn hxS => ?_⟩
  ·show Except.ok (iNd ((P ++ q0 :: R).eraseIdx (i - 1)) (((X ++ a :: b :: Y).map pg).eraseIdx (i - 1 + 1)), _) = .ok (iNd (P ++ R) ((X ++ zcq a b q0 :: Y).map pg), _)
   rw [show (P ++ q0 :: R).eraseIdx (i - 1) = P ++ R by rw [hi, hl]; exact zzl P q0 R, hmap, ← hXl, zt8, List.map_append, List.map_cons, zmc]
  ·rcases List.mem_append.1 hx with hx | hx
   ·exact (hrX x (.inl hx)).frame fun y hy => zbe _ _ (hoth x (.inl hx) y hy).2.2.2
   ·rcases List.mem_cons.1 hx with rfl | hx
    ·refine Rep.mk' ?_ (hK.frame (fun y _ hne => zbe _ _ (by rw [← zmc a b q0]; exact hne)) d3)
     rw [zmc]
     exact zfz _ _ _
    ·exact (hrX x (.inr hx)).frame fun y hy => zbe _ _ (hoth x (.inr hx) y hy).2.2.2
  ·exact zbe _ _ (fun e => hxn (by rw [e]; exact hin a hma _ (zcb a)))
end Go.Eng.Tr
