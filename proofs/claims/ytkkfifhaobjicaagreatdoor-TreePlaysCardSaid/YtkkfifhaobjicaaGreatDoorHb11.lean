/- Delete at the root, Get, on pages. Own work; no condition. -/
/- Check, on pages. Own work; no condition. -/
import Derived.Test.YtkkfifhaobjicaaGreatDoorHb10
namespace Go.Eng.Tr
open Go.Proofs.YtkkfifhaobjicaaGreatDoor
set_option maxRecDepth 100000
theorem qg8 {s : Sh} (hs : zua s) {N : Nat} (hn : 0 < N) (hN : N ≤ 1024) (k : K) (r : Rt) (g : Sg) (L : List Nat) (hr : qcn s r) (hrep : qir g.W r) (hA : Acc N g.S (zm4 r ++ L)) (hh : zgr r < 16) :
  ∃ g', zuk s N k g (zgt r : Nat) = .ok (((zgt (zwj s N k g.S r).1 : Nat), (zwj s N k g.S r).2.1), g') ∧ qir g'.W (zwj s N k g.S r).1 ∧ g'.S = (zwj s N k g.S r).2.2 ∧ ∀ x ∈ L, g'.W x = g.W x := by
 match r with
 | none => exact ⟨g, rfl, trivial, rfl, fun _ _ => rfl⟩
 | some ⟨h, t⟩ =>
  have hr : TOk s t := hr
  have hrep : Rep g.W t := hrep
  have hA : Acc N g.S (pgs t ++ L) := hA
  have hh : h < 16 := hh
  obtain ⟨nd1, nd2, nd3⟩ := List.nodup_append.1 hA.nodup
  obtain ⟨g1, hg1⟩ := zps hs hn hN k t 16 g L hh hr.ord hr.wd hr.below hr.le hr.two hrep hA
  have hrok := zky s N hn hs.h2 (by have := hs.fan; omega) k t g.S hr.ord hr.wd hr.below hr.le hr.two
  obtain ⟨hp1, hp2⟩ := hA.low (pg t) (List.mem_append_left _ (zcb t))
  have hne0 : ¬ ((pg t : Nat) : Int) = 0 := by omega
  have hdel : zwj s N k g.S (some ⟨h, t⟩) = match zcw s N t k g.S with
   | (_, false, S') => (some ⟨h, t⟩, false, S')
   | (t', true, S') => match zf0 t' with
    | some r => (r, true, us S' (pg t) false)
    | none => (some ⟨h, t'⟩, true, S') := rfl
  have hF : zuk s N k g ((pg t : Nat) : Int) = (do
    let (r, g1) ← zdz s N k 16 g (pg t : Nat)
    if r.2 = false then return ((((pg t : Nat) : Int), false), g1)
    else if r.1.leaf = true ∧ r.1.keys.length = 0 then do
     let g2 ← zfy N g1 ((pg t : Nat) : Int).toNat
     return ((0, true), g2)
    else if r.1.leaf = false ∧ r.1.kids.length = 1 then do
     let g2 ← zfy N g1 ((pg t : Nat) : Int).toNat
     return (((r.1.kids.getD 0 0 : Nat), true), g2)
    else do
     let g2 ← zb7 s N g1 ((pg t : Nat) : Int).toNat r.1
     return ((((pg t : Nat) : Int), true), g2)) := by
   unfold zuk
   rw [if_neg hne0]
  show ∃ g', zuk s N k g ((pg t : Nat) : Int) = .ok (((zgt (zwj s N k g.S (some ⟨h, t⟩)).1 : Nat), (zwj s N k g.S (some ⟨h, t⟩)).2.1), g') ∧ qir g'.W (zwj s N k g.S (some ⟨h, t⟩)).1 ∧ g'.S = (zwj s N k g.S (some ⟨h, t⟩)).2.2 ∧ ∀ x ∈ L, g'.W x = g.W x
  rw [hdel, hF, hg1.is, Int.toNat_natCast]
  have hfrL : ∀ x ∈ L, g1.W x = g.W x := fun x hx => by
   have hxA : x ∈ pgs t ++ L := List.mem_append_right _ hx
   have := hA.low x hxA
   exact hg1.frame x this.2 (.inl (fun h => nd3 x h x hx rfl)) ((hA.is x this.2).2 (.inr hxA))
  obtain ⟨⟨t', is, S'⟩, hq⟩ : ∃ r, zcw s N t k g.S = r := ⟨_, rfl⟩
  rw [hq] at hg1 hrok ⊢
  cases is with
  | false =>
   obtain ⟨-, hS⟩ := hrok.no rfl
   have hg := hg1.no rfl
   subst hg
   exact ⟨g1, rfl, hrep, hS.symm, fun _ _ => rfl⟩
  | true =>
   obtain ⟨y1, y2, y3, y4, y5, y6, y7, y8⟩ := hrok.yes rfl
   simp only at y1 y2 y3 y4 y5 y6 y7 y8
   have hA1 := y8 L hA
   have hg1S : g1.S = S' := hg1.S
   have hg1k : zz4 g1.W t' := hg1.kids
   have hptS : g1.S (pg t) = true := by
    rw [hg1S]
    exact (hA1.is (pg t) hp2).2 (.inr (List.mem_append_left _ (by rw [← y1]; exact zcb t')))
   have hdrop : zfy N g1 (pg t) = .ok { g1 with S := us g1.S (pg t) false } := by
    unfold zfy
    rw [if_pos ⟨hp1, hp2, hptS⟩]
   have hsave : zf0 t' = none → zfs s (zal t') := fun hsh => zce t' y3 y4 (Nat.le_trans y6 hr.le) (fun h1 => by
    cases h with
    | zero => omega
    | succ h =>
     obtain ⟨p', ks', kids'⟩ := t'
     match kids', hsh, y7 with
     | [], _, y7 => have := hr.two (Nat.succ_pos _); have y7 : sz t ≤ 0 + 1 := y7; omega
     | [x], hsh, _ => cases hsh
     | x :: z :: l, _, _ => show 2 ≤ (x :: z :: l).length; simp) fun x hx => by
    have := hA1.low x (List.mem_append_left _ hx)
    exact ⟨this.1, Nat.lt_of_lt_of_le this.2 hN⟩
   have hstep : ((do
    let (r, g1) ← (Except.ok ((zal t', true), g1) : Except Nat ((Nd × Bool) × Sg))
    if r.2 = false then return ((((pg t : Nat) : Int), false), g1)
    else if r.1.leaf = true ∧ r.1.keys.length = 0 then do
     let g2 ← zfy N g1 (pg t)
     return ((0, true), g2)
    else if r.1.leaf = false ∧ r.1.kids.length = 1 then do
     let g2 ← zfy N g1 (pg t)
     return (((r.1.kids.getD 0 0 : Nat), true), g2)
    else do
     let g2 ← zb7 s N g1 (pg t) r.1
     return ((((pg t : Nat) : Int), true), g2)) : Except Nat ((Int × Bool) × Sg)) = (if (zal t').leaf = true ∧ (zal t').keys.length = 0 then .ok (((0 : Int), true), { g1 with S := us g1.S (pg t) false })
    else if (zal t').leaf = false ∧ (zal t').kids.length = 1 then .ok ((((zal t').kids.getD 0 0 : Nat), true), { g1 with S := us g1.S (pg t) false })
    else do
     let g2 ← zb7 s N g1 (pg t) (zal t')
     return ((((pg t : Nat) : Int), true), g2)) := by
    show ((if (zal t').leaf = true ∧ (zal t').keys.length = 0 then do
     let g2 ← zfy N g1 (pg t)
     return ((0, true), g2)
    else if (zal t').leaf = false ∧ (zal t').kids.length = 1 then do
     let g2 ← zfy N g1 (pg t)
     return ((((zal t').kids.getD 0 0 : Nat), true), g2)
    else do
     let g2 ← zb7 s N g1 (pg t) (zal t')
     return ((((pg t : Nat) : Int), true), g2)) : Except Nat ((Int × Bool) × Sg)) = _
    rw [hdrop]
    rfl
   rw [hstep]
   cases h with
   | zero =>
    obtain ⟨p', es'⟩ := t'
    by_cases h0 : es'.length = 0
    ·have e0 : es' = [] := List.eq_nil_of_length_eq_zero h0
     subst e0
     have hsh : zf0 (h := 0) (p', []) = some none := rfl
     simp only [hsh]
     refine ⟨{ g1 with S := us g1.S (pg t) false }, ?_, trivial, by show us g1.S (pg t) false = us S' (pg t) false; rw [hg1S], hfrL⟩
     rw [if_pos ⟨rfl, rfl⟩]
     rfl
    ·have hsh : zf0 (h := 0) (p', es') = none := if_neg h0
     have hm := hsave hsh
     simp only [hsh]
     have hc1 : ¬ ((zal (h := 0) (p', es')).leaf = true ∧ (zal (h := 0) (p', es')).keys.length = 0) := fun h => by
      have := h.2
      have e : (zal (h := 0) (p', es')).keys.length = es'.length := List.length_map _
      omega
     have hc2 : ¬ ((zal (h := 0) (p', es')).leaf = false ∧ (zal (h := 0) (p', es')).kids.length = 1) := fun h => by cases h.1
     rw [if_neg hc1, if_neg hc2, zcn hm hp1 hp2]
     have yp : p' = pg t := y1
     subst yp
     refine ⟨{ g1 with W := wr g1.W (pg t) (zcg (zal (h := 0) (pg t, es'))) }, rfl, zfz _ _ _, hg1S, fun x hx => ?_⟩
     ·show wr _ _ _ x = _
      rw [zbe _ _ (fun e => nd3 (pg t) (zcb t) x hx e.symm)]
      exact hfrL x hx
   | succ h =>
    obtain ⟨p', ks', kids'⟩ := t'
    have h2k := hr.two (Nat.succ_pos _)
    have y7 : sz t ≤ kids'.length + 1 := y7
    have yp : p' = pg t := y1
    subst yp
    have hg1k : ∀ x ∈ kids', Rep g1.W x := hg1k
    have hc1 : ¬ ((zal (h := h + 1) (pg t, ks', kids')).leaf = true ∧ (zal (h := h + 1) (pg t, ks', kids')).keys.length = 0) := fun h => by cases h.1
    rw [if_neg hc1]
    match kids', y7, hsave, hg1k, hA1 with
    | [], y7, _, _, _ => have y7 : sz t ≤ 0 + 1 := y7; omega
    | [x], y7, hsave, hg1k, hA1 =>
     have hsh : zf0 (h := h + 1) (pg t, ks', [x]) = some (some ⟨h, x⟩) := rfl
     simp only [hsh]
     rw [if_pos ⟨rfl, rfl⟩]
     exact ⟨{ g1 with S := us g1.S (pg t) false }, rfl, hg1k x (.head _), by show us g1.S (pg t) false = us S' (pg t) false; rw [hg1S], hfrL⟩
    | x :: z :: l, y7, hsave, hg1k, hA1 =>
     have hsh : zf0 (h := h + 1) (pg t, ks', x :: z :: l) = none := rfl
     have hm := hsave hsh
     simp only [hsh]
     have hc2 : ¬ ((zal (h := h + 1) (pg t, ks', x :: z :: l)).leaf = false ∧ (zal (h := h + 1) (pg t, ks', x :: z :: l)).kids.length = 1) := fun h => by
      have := h.2
      have e : (zal (h := _ + 1) (pg t, ks', x :: z :: l)).kids.length = (x :: z :: l).length := List.length_map _
      rw [e] at this
      simp at this
     rw [if_neg hc2, zcn hm hp1 hp2]
     have hA1 : Acc N S' ((pg t :: (x :: z :: l).flatMap pgs) ++ L) := hA1
     obtain ⟨m1, -⟩ := List.nodup_cons.1 (show (pg t :: ((x :: z :: l).flatMap pgs ++ L)).Nodup from hA1.nodup)
     refine ⟨{ g1 with W := wr g1.W (pg t) (zcg (zal (h := h + 1) (pg t, ks', x :: z :: l))) }, rfl, ⟨zfz _ _ _, fun w hw => ?_⟩, hg1S, fun w hw => ?_⟩
     ·have hw : w ∈ x :: z :: l := hw
      refine (hg1k w hw).frame fun y hy => zbe _ _ (fun e => m1 ?_)
      rw [← e]
      exact List.mem_append_left _ (List.mem_flatMap.2 ⟨w, hw, hy⟩)
     ·show wr _ _ _ w = _
      rw [zbe _ _ (fun e => nd3 (pg t) (zcb t) w hw e.symm)]
      exact hfrL w hw
theorem zwg {s : Sh} (hs : zua s) {N : Nat} (hN : N ≤ 1024) (k : K) (g : Sg) : ∀ {h : Nat} (t : T h) (d : Nat), h < d → Ord t → Wd s t → Below s t → sz t ≤ mx s h → (1 ≤ h → 2 ≤ sz t) → Rep g.W t → (∀ x ∈ pgs t, 1 ≤ x ∧ x < N) → ∃ es, zkd s N g k d (pg t : Nat) = .ok (lNd (keys es) (List.map (fun q : K × K => q.2) es)) ∧ es = zih t k
 | 0, (p, es), d + 1, _, hO, hW, hB, hm, _, hrep, hp => by
  obtain ⟨hp1, hp2⟩ := hp p (.head _)
  have hmay : zfs s (zal (zbk p es)) := zce (zbk p es) hO hW hm (fun h => by omega) fun x hx => by rw [List.mem_singleton.1 hx]; exact ⟨hp1, Nat.lt_of_lt_of_le hp2 hN⟩
  have hload : zen s N g (p : Nat) = .ok (zal (zbk p es)) := zec (t := zbk p es) hs.kw hrep hmay hp1 hp2
  refine ⟨es, ?_, rfl⟩
  show zkd s N g k (d + 1) (p : Nat) = _
  rw [zkd, hload]
  rfl
 | h + 1, (p, ks, kids), d + 1, hd, hO, hW, hB, hm, h2k, hrep, hp => by
  obtain ⟨hp1, hp2⟩ := hp p (.head _)
  have hfan := hs.fan
  have hB' : ∀ x ∈ kids, mx s h / 2 ≤ sz x ∧ sz x ≤ mx s h ∧ Below s x := hB
  have hl : (kids.map ents).length = ks.length + 1 := hO.2.1.len
  rw [List.length_map] at hl
  have hi : dn ks k < kids.length := by have := znq ks k; omega
  have hc : kids[dn ks k]? = some kids[dn ks k] := List.getElem?_eq_getElem hi
  have hcm := List.getElem_mem hi
  have hmay : zfs s (zal (zaw p ks kids)) := zce (zaw p ks kids) hO hW hm h2k fun x hx => ⟨(hp x hx).1, Nat.lt_of_lt_of_le (hp x hx).2 hN⟩
  have hload : zen s N g (p : Nat) = .ok (zal (zaw p ks kids)) := zec (t := zaw p ks kids) hs.kw hrep hmay hp1 hp2
  have hh := hs.h2 h
  obtain ⟨es, e1, e2⟩ := zwg hs hN k g kids[dn ks k] d (by omega) (hO.2.2 _ hcm) (hW.2 _ hcm) (hB' _ hcm).2.2 (hB' _ hcm).2.1 (fun h1 => by
   have := (hB' _ hcm).1
   cases h with
   | zero => omega
   | succ h => have e : mx s (h + 1) = s.fan := rfl; omega) (hrep.2 _ hcm) fun x hx => hp x (.tail _ (List.mem_flatMap.2 ⟨_, hcm, hx⟩))
  have hkd : (zal (zaw p ks kids)).kids.getD (dn ks k) 0 = pg kids[dn ks k] := by
   show (kids.map pg).getD (dn ks k) 0 = _
   rw [List.getD_eq_getElem?_getD, List.getElem?_map, hc]; rfl
  refine ⟨es, ?_, ?_⟩
  ·show zkd s N g k (d + 1) (p : Nat) = _
   rw [zkd, hload]
   show zkd s N g k d ((zal (zaw p ks kids)).kids.getD (dn ks k) 0 : Nat) = _
   rw [hkd]
   exact e1
  ·rw [e2]
   show _ = zih (zaw p ks kids) k
   simp only [zih, zaw, hc]
theorem qiw {s : Sh} (hs : zua s) {N : Nat} (hN : N ≤ 1024) (k : K) (r : Rt) (g : Sg) (hr : qcn s r) (hrep : qir g.W r) (hp : ∀ x ∈ zm4 r, 1 ≤ x ∧ x < N) (hh : zgr r < 16) : zyu s N g k (zgt r : Nat) = .ok (zlo (zbr r) k) := by
 match r with
 | none => rfl
 | some ⟨h, t⟩ =>
  have hr : TOk s t := hr
  obtain ⟨es, e1, e2⟩ := zwg hs hN k g t 16 hh hr.ord hr.wd hr.below hr.le hr.two hrep hp
  obtain ⟨l1, l2⟩ := ztn t k hr.ord
  rw [← e2] at l1 l2
  have hne0 : ¬ ((pg t : Nat) : Int) = 0 := by have := (hp (pg t) (zcb t)).1; omega
  show zyu s N g k ((pg t : Nat) : Int) = .ok (zlo (ents t) k)
  unfold zyu
  rw [if_neg hne0, e1, ← l2]
  show Except.ok (if fd (keys es) k then (List.map (fun q : K × K => q.2) es)[lb (keys es) k]? else none) = _
  have hrow := zna (e := es) (k := k) l1
  cases hf : fd (keys es) k with
  | true =>
   obtain ⟨v, a1, a2, -, -⟩ := hrow.1 hf
   rw [if_pos rfl, List.getElem?_map, a1, a2]; rfl
  | false =>
   obtain ⟨a1, -, -⟩ := hrow.2 hf
   rw [if_neg Bool.false_ne_true, a1]
def Bnd (fr be k : K) : Prop := ¬ kl k fr ∧ (be = [] ∨ kl k be)
instance (fr be k : K) : Decidable (Bnd fr be k) := inferInstanceAs (Decidable (_ ∧ _))
structure Prt where
 keys : Nat
 pages : Nat
 deep : Nat
def loF (fr : K) (keys : List K) (i : Nat) : K := if 0 < i then keys.getD (i - 1) [] else fr
def hiF (be : K) (keys : List K) (i : Nat) : K := if i < keys.length then keys.getD i [] else be
def zjp (ck : Nat → K → K → Except Nat Prt) (keys : List K) (fr be : K) : List Nat → Nat → Prt → Except Nat Prt
 | [], _, out => .ok out
 | kid :: l, i, out => do
  let p ← ck kid (loF fr keys i) (hiF be keys i)
  if i ≠ 0 ∧ out.deep ≠ p.deep + 1 then .error 12
  else zjp ck keys fr be l (i + 1) ⟨out.keys + p.keys, out.pages + p.pages, p.deep + 1⟩
noncomputable section
def zgm (s : Sh) (N : Nat) (g : Sg) : Nat → Int → K → K → Bool → Except Nat Prt
 | 0, _, _, _, _ => .error 12
 | d + 1, at_, fr, be, root => do
  let n ← zen s N g at_
  if root = false ∧ zht s n = true then .error 12
  else if ∀ k ∈ n.keys, Bnd fr be k then
   if n.leaf = true then
    if n.keys.length = 0 then .error 12 else .ok ⟨n.keys.length, 1, 1⟩
   else zjp (fun at_ fr be => zgm s N g d (at_ : Nat) fr be false) n.keys fr be n.kids 0 ⟨0, 1, 0⟩
  else .error 12
end
theorem zzi {s : Sh} {h : Nat} (ck : Nat → K → K → Except Nat Prt) (keys : List K) (fr be : K) : ∀ (l : List (T h)) (i : Nat) (out : Prt), (i ≠ 0 → out.deep = h + 2) → (∀ j (hj : j < l.length), ck (pg l[j]) (loF fr keys (i + j)) (hiF be keys (i + j)) = .ok ⟨(ents l[j]).length, (pgs l[j]).length, h + 1⟩) →
  zjp ck keys fr be (l.map pg) i out = .ok ⟨out.keys + (l.flatMap ents).length, out.pages + (l.flatMap pgs).length, if l = [] then out.deep else h + 2⟩
 | [], i, out, _, _ => rfl
 | x :: l, i, out, hd, hk => by
  have h0 := hk 0 (Nat.succ_pos _)
  rw [List.map_cons, zjp]
  have h0 : ck (pg x) (loF fr keys i) (hiF be keys i) = .ok ⟨(ents x).length, (pgs x).length, h + 1⟩ := h0
  rw [h0]
  have hn : ¬ (i ≠ 0 ∧ out.deep ≠ h + 1 + 1) := fun h => h.2 (hd h.1)
  show (if i ≠ 0 ∧ out.deep ≠ h + 1 + 1 then _ else zjp ck keys fr be (l.map pg) (i + 1) ⟨out.keys + (ents x).length, out.pages + (pgs x).length, h + 1 + 1⟩) = _
  rw [if_neg hn, zzi (s := s) ck keys fr be l (i + 1) _ (fun _ => rfl) fun j hj => by
   have := hk (j + 1) (Nat.succ_lt_succ hj)
   rw [show i + (j + 1) = i + 1 + j by omega] at this
   exact this]
  rw [if_neg (List.cons_ne_nil x l), List.flatMap_cons, List.flatMap_cons, List.length_append, List.length_append]
  by_cases hl : l = []
  ·rw [if_pos hl, Nat.add_assoc, Nat.add_assoc]
  ·rw [if_neg hl, Nat.add_assoc, Nat.add_assoc]
theorem zro {s : Sh} (hs : zua s) {N : Nat} (hN : N ≤ 1024) (g : Sg) : ∀ {h : Nat} (t : T h) (d : Nat) (fr be : K) (root : Bool), h < d → Ord t → Wd s t → Below s t → sz t ≤ mx s h → 1 ≤ sz t → (1 ≤ h → 2 ≤ sz t) → (root = false → mx s h / 2 ≤ sz t) → (∀ q ∈ ents t, Bnd fr be q.1) → Rep g.W t → (∀ x ∈ pgs t, 1 ≤ x ∧ x < N) →
  zgm s N g d (pg t : Nat) fr be root = .ok ⟨(ents t).length, (pgs t).length, h + 1⟩
 | 0, (p, es), d + 1, fr, be, root, _, hO, hW, hB, hm, h1, _, hpo, hb, hrep, hp => by
  obtain ⟨hp1, hp2⟩ := hp p (.head _)
  have hmay : zfs s (zal (zbk p es)) := zce (zbk p es) hO hW hm (fun h => by omega) fun x hx => by rw [List.mem_singleton.1 hx]; exact ⟨hp1, Nat.lt_of_lt_of_le hp2 hN⟩
  have hload : zen s N g (p : Nat) = .ok (zal (zbk p es)) := zec (t := zbk p es) hs.kw hrep hmay hp1 hp2
  have hl : (zal (zbk p es)).keys.length = es.length := List.length_map _
  have h1 : 1 ≤ es.length := h1
  have hpoor : ¬ (root = false ∧ zht s (zal (zbk p es)) = true) := fun hq => by
   have h3 := hpo hq.1
   have h4 := hq.2
   rw [zpu] at h4
   exact Nat.not_lt.2 h3 (of_decide_eq_true h4)
  have hbn : ∀ k ∈ (zal (zbk p es)).keys, Bnd fr be k := fun k hk => by
   obtain ⟨q, hq, rfl⟩ := List.mem_map.1 hk
   exact hb q hq
  show zgm s N g (d + 1) (p : Nat) fr be root = _
  rw [zgm, hload]
  show (if root = false ∧ zht s (zal (zbk p es)) = true then _ else _) = _
  rw [if_neg hpoor, if_pos hbn, if_pos (show (zal (zbk p es)).leaf = true from rfl), if_neg (by omega), hl]
  rfl
 | h + 1, (p, ks, kids), d + 1, fr, be, root, hd, hO, hW, hB, hm, h1, h2k, hpo, hb, hrep, hp => by
  obtain ⟨hp1, hp2⟩ := hp p (.head _)
  have hB' : ∀ x ∈ kids, mx s h / 2 ≤ sz x ∧ sz x ≤ mx s h ∧ Below s x := hB
  obtain ⟨hks, hsep, hOk⟩ := hO
  have hks : Ks ks := hks
  have hsep : Sep ks (kids.map ents) := hsep
  have hl := hsep.len
  rw [List.length_map] at hl
  obtain ⟨p1, p2⟩ := hsep.part hks
  have h2 : 2 ≤ kids.length := h2k (Nat.succ_pos _)
  have hh := hs.h2 h
  have hfan := hs.fan
  have hne : ∀ i (hi : i < kids.length), ents kids[i] ≠ [] := fun i hi => by
   have hb := hB' _ (List.getElem_mem hi)
   exact zhv s hs.h2 _ hb.2.2 (by omega)
  have hent : ∀ i (hi : i < kids.length), ∀ q ∈ ents kids[i], Bnd fr be q.1 := fun i hi q hq => hb q (List.mem_flatMap.2 ⟨_, List.getElem_mem hi, hq⟩)
  have hmay : zfs s (zal (zaw p ks kids)) := zce (zaw p ks kids) ⟨hks, hsep, hOk⟩ hW hm h2k fun x hx => ⟨(hp x hx).1, Nat.lt_of_lt_of_le (hp x hx).2 hN⟩
  have hload : zen s N g (p : Nat) = .ok (zal (zaw p ks kids)) := zec (t := zaw p ks kids) hs.kw hrep hmay hp1 hp2
  have hkl : (zal (zaw p ks kids)).kids.length = kids.length := List.length_map _
  have hpoor : ¬ (root = false ∧ zht s (zal (zaw p ks kids)) = true) := fun hq => by
   have h3 := hpo hq.1
   have h4 := hq.2
   rw [zpu] at h4
   exact Nat.not_lt.2 h3 (of_decide_eq_true h4)
  have hlt : ∀ i (hi : i < ks.length) (hj : i < kids.length), ∀ q ∈ ents kids[i], kl q.1 ks[i] := fun i hi hj q hq => by
   have := p1 i i hi (by rw [List.length_map]; exact hj) (Nat.le_refl _)
   rw [List.getElem_map] at this
   exact this q hq
  have hge : ∀ i (hi : i < ks.length) (hj : i + 1 < kids.length), ∀ q ∈ ents kids[i + 1], ¬ kl q.1 ks[i] := fun i hi hj q hq => by
   have := p2 i (i + 1) hi (by rw [List.length_map]; exact hj) (Nat.lt_succ_self _)
   rw [List.getElem_map] at this
   exact this q hq
  have hbn : ∀ k ∈ (zal (zaw p ks kids)).keys, Bnd fr be k := fun k hk => by
   have hk : k ∈ ks := hk
   obtain ⟨i, hi, rfl⟩ := List.getElem_of_mem hk
   obtain ⟨a, ha⟩ := List.exists_mem_of_ne_nil _ (hne i (by omega))
   obtain ⟨b, hb'⟩ := List.exists_mem_of_ne_nil _ (hne (i + 1) (by omega))
   have a1 := hlt i hi (by omega) a ha
   have b1 := hge i hi (by omega) b hb'
   have a2 := hent i (by omega) a ha
   have b2 := hent (i + 1) (by omega) b hb'
   exact ⟨fun hc => a2.1 (zb5 a1 hc), b2.2.imp id fun hc => zdg b1 hc⟩
  show zgm s N g (d + 1) (p : Nat) fr be root = _
  rw [zgm, hload]
  show (if root = false ∧ zht s (zal (zaw p ks kids)) = true then _ else _) = _
  rw [if_neg hpoor, if_pos hbn, if_neg (show ¬ (zal (zaw p ks kids)).leaf = true from Bool.false_ne_true)]
  show zjp _ ks fr be (kids.map pg) 0 ⟨0, 1, 0⟩ = _
  rw [zzi (s := s) (h := h) _ ks fr be kids 0 _ (fun h => absurd rfl h) fun j hj => ?_]
  ·have hnk : ¬ kids = [] := fun e => by rw [e, List.length_nil] at h2; omega
   rw [if_neg hnk]
   show Except.ok _ = Except.ok (⟨(kids.flatMap ents).length, (p :: kids.flatMap pgs).length, h + 1 + 1⟩ : Prt)
   rw [List.length_cons, Nat.zero_add, Nat.add_comm 1]
  ·rw [Nat.zero_add]
   have hcm := List.getElem_mem hj
   have hb' := hB' _ hcm
   refine zro hs hN g kids[j] d _ _ false (by omega) (hOk _ hcm) (hW.2 _ hcm) hb'.2.2 hb'.2.1 (by omega) (fun h1 => by
    have := hb'.1
    cases h with
    | zero => omega
    | succ h => have e : mx s (h + 1) = s.fan := rfl; omega) (fun _ => hb'.1) (fun q hq => ?_) (hrep.2 _ hcm) fun x hx => hp x (.tail _ (List.mem_flatMap.2 ⟨_, hcm, hx⟩))
   have hq0 := hent j hj q hq
   refine ⟨?_, ?_⟩
   ·unfold loF
    by_cases h0 : 0 < j
    ·obtain ⟨i, rfl⟩ : ∃ i, j = i + 1 := ⟨j - 1, by omega⟩
     rw [if_pos h0, Nat.add_sub_cancel, List.getD_eq_getElem?_getD, List.getElem?_eq_getElem (by omega : i < ks.length)]
     exact hge i (by omega) hj q hq
    ·rw [if_neg h0]; exact hq0.1
   ·unfold hiF
    by_cases h0 : j < ks.length
    ·rw [if_pos h0, List.getD_eq_getElem?_getD, List.getElem?_eq_getElem h0]
     exact .inr (hlt j h0 hj q hq)
    ·rw [if_neg h0]; exact hq0.2
theorem qm5 (a : K) : ¬ kl a [] := fun h => by unfold kl at h; cases a <;> cases h
noncomputable def zme (s : Sh) (N : Nat) (g : Sg) (root : Int) : Except Nat (Nat × Nat) :=
 if root = 0 then .ok (0, 0) else do
  let p ← zgm s N g 16 root [] [] true
  return (p.keys, p.pages)
theorem qbr {s : Sh} (hs : zua s) {N : Nat} (hN : N ≤ 1024) (r : Rt) (g : Sg) (hr : qcn s r) (hrep : qir g.W r) (hp : ∀ x ∈ zm4 r, 1 ≤ x ∧ x < N) (hh : zgr r < 16) : zme s N g (zgt r : Nat) = .ok ((zbr r).length, (zm4 r).length) := by
 match r with
 | none => rfl
 | some ⟨h, t⟩ =>
  have hr : TOk s t := hr
  have hne0 : ¬ ((pg t : Nat) : Int) = 0 := by have := (hp (pg t) (zcb t)).1; omega
  show zme s N g ((pg t : Nat) : Int) = .ok ((ents t).length, (pgs t).length)
  unfold zme
  rw [if_neg hne0, zro hs hN g t 16 [] [] true hh hr.ord hr.wd hr.below hr.le hr.one hr.two (fun h => nomatch h) (fun q _ => And.intro (qm5 q.1) (Or.inl rfl)) hrep hp]
  rfl
end Go.Eng.Tr
