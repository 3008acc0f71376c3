/- node: Put. Own work; no condition. -/
import Derived.Test.YtkkfifhaobjicaaGreatDoorHb14
import Derived.Test.YtkkfifhaobjicaaGreatDoorHb20
import Derived.Test.YtkkfifhaobjicaaGreatDoorHb21
namespace Go.Proofs.YtkkfifhaobjicaaGreatDoor
open Go.RowKit Go.Eng Go.Eng.Tr
set_option maxRecDepth 100000
set_option maxHeartbeats 40000000
def zud (n : Nd) : List Bys := if n.leaf then (n.keys.zip n.vals).map fun p => p.1 ++ p.2 else n.keys
theorem qc7 (n : Nd) : (zud n).flatten = qcq n := by
 unfold zud qcq
 cases n.leaf with
 | true => simp only [if_true]; rw [List.flatMap_def]
 | false => simp only [Bool.false_eq_true, if_false]; rw [List.flatMap_id]
theorem zvb {L : List Bys} {i : Nat} {x : Bys} (h : L[i]? = some x) : (L.take (i + 1)).flatten = (L.take i).flatten ++ x := by
 rw [List.take_add_one, h, List.flatten_append]
 simp
theorem qc2 {L : List Nat} {i x : Nat} (h : L[i]? = some x) : (L.take (i + 1)).flatMap (beN 2) = (L.take i).flatMap (beN 2) ++ beN 2 x := by
 rw [List.take_add_one, h, List.flatMap_append]
 simp
theorem qdd : ∀ (L : List Bys) (c : Nat), (∀ x ∈ L, x.length ≤ c) → L.flatten.length ≤ L.length * c
 | [], _, _ => by simp
 | x :: L, c, h => by
  have h1 := h x (.head _)
  have h2 := qdd L c fun y hy => h y (.tail _ hy)
  rw [List.flatten_cons, List.length_append, List.length_cons, Nat.succ_mul]
  omega
theorem zlv (k : K) : (kB k).size = k.length := List.size_toArray
theorem qgn (k : K) : (kB k).data.toList = k := rfl
open Classical in
theorem zqy {s : Sh} (hs : ShB s) (n : Nd) (a : Pl) (hb : NdB n) (w : World) (hr : NdR w n a) : Ct Tryz.prog 69 #[shV s, ndV n a] w none'
  (fun x : Option (Option (Nat × Nat)) => match x with | none => .tuple #[.slice none 0 0, .int .i64 2] | some o => .tuple #[slV o 512, .int .i64 0]) (fun x => x.isSome = decide (zfs s n)) (fun x => match x with | none => [] | some o => [own 5 1 o 512 (zaf (zcg n))]) := by
 have hmay := zhb hs
 have hmn := fun w' (h : Fr none' w w') => qb5 hs n a hb w' ⟨hr.k.fr h, hr.v.fr h, hr.d.fr h⟩
 have hbk := hb.k
 have hbv := hb.v
 have hbd := hb.d
 obtain ⟨⟨ka, kc⟩, ⟨va, vc⟩, ⟨da, dc⟩⟩ := a
 obtain ⟨rk, rv, rd⟩ := hr
 simp only at rk rv rd
 refine zfo [_, _] Tryz.func69 rfl rfl ?_
 unfold shV shI at hmay hmn ⊢
 unfold ndV at hmn ⊢
 simp only at hmn ⊢
 obtain ⟨lf, hlf⟩ : ∃ x, n.leaf = x := ⟨_, rfl⟩
 obtain ⟨nk, hnk⟩ : ∃ x, n.keys.length = x := ⟨_, rfl⟩
 obtain ⟨nv, hnv⟩ : ∃ x, n.vals.length = x := ⟨_, rfl⟩
 obtain ⟨nd, hnd⟩ : ∃ x, n.kids.length = x := ⟨_, rfl⟩
 rw [hlf, hnk, hnv, hnd] at hmn ⊢
 rw [hnk] at hbk
 rw [hnv] at hbv
 rw [hnd] at hbd
 simp only [zaa, Nat.reduceAdd]
 refine goA ?_
 refine zb0 rfl rfl fun b1 hb1 => ?_
 refine goA ?_
 refine zb0 rfl rfl fun b2 hb2 => ?_
 refine goA ?_
 refine zae rfl (zag rfl (by kernel_rfl) rfl (fun w1 hw1 => hmay w1)) fun _ => ?_
 refine goA ?_
 refine zae rfl (zag rfl (by kernel_rfl) rfl (fun w1 hw1 => hmn w1 hw1.fr)) fun _ => ?_
 refine goA ?_
 by_cases hm : zfs s n
 ·rw [decide_eq_true hm]
  obtain ⟨kd, hkd⟩ : ∃ k, (if lf then 1 else 2 : Nat) = k := ⟨_, rfl⟩
  have hk2 : kd < 256 := by rw [← hkd]; split <;> omega
  have hkid : ∀ k ∈ n.kids, k < 1024 := fun k hk => by
   cases hl : n.leaf with
   | true => rw [(hm.leaf hl).1] at hk; cases hk
   | false => exact ((hm.inner hl).1 k hk).2
  have hnk1 : nk ≤ 1024 := by
   have h2 := hs.k1
   have h3 := hs.k2
   have e1 : s.cap ≤ 508 := Nat.div_le_self _ _
   have e2 : s.fan ≤ 508 + s.kw := Nat.div_le_self _ _
   cases lf with
   | true => have := (hm.leaf hlf).2.2.2; omega
   | false => have h5 := (hm.inner hlf).2.2; omega
  refine goA ?_
  refine zm8 (w0 := w) (F := none') (α := Unit) (fun _ => [(2, .pointer (some ⟨b1, 0, none⟩)), (3, .pointer (some ⟨b2, 0, none⟩)), (6, .int .u64 kd)]) (fun _ => True) (fun _ => [pt b2 (.cells #[.bool lf, .slice ka nk kc, .slice va nv vc, .slice da nd dc] 101 (0, 0)), pt b1 (.cells #[.int .i64 s.kw, .int .i64 s.vw] 45 (0, 0))]) ?_ fun _ _ => ?_
  ·cases lf with
   | true =>
    rw [if_pos rfl] at hkd
    subst hkd
    refine goA ?_
    exact zd1 () ⟨rfl, rfl, rfl, trivial⟩ trivial (fun w' hw' => hw')
   | false =>
    rw [if_neg (by decide)] at hkd
    subst hkd
    refine goA ?_
    exact zd1 () ⟨rfl, rfl, rfl, trivial⟩ trivial (fun w' hw' => hw')
  ·refine goA ?_
   refine zaq [0, 1] 10 rfl rfl (by kernel_rfl) ?_
   refine goE ?_
   refine zau 0 ⟨by kernel_rfl, by decide⟩ rfl rfl (qck rfl (by kernel_rfl) rfl (fun w1 hw1 => zln w1)) (fun _ _ h => goH h) fun ⟨b, hb0⟩ => ?_
   refine goE ?_
   refine zau 2 ⟨by kernel_rfl, by decide⟩ rfl rfl (zba (pre := pks b none []) rfl (by kernel_rfl) rfl (by simp [zac, zab]) (fun w1 hw1 hh1 ha1 => zd7 b none [] 1 kd (.inl rfl) (by omega) (by decide) w1 hh1 ha1)) (fun _ _ h => goH h) fun ⟨o1, _⟩ => ?_
   rw [List.nil_append]
   refine goE ?_
   refine zau 3 ⟨by kernel_rfl, by decide⟩ rfl rfl (zba (pre := pks b o1 (beN 1 kd)) rfl (by kernel_rfl) rfl (by simp [zac, zab]) (fun w1 hw1 hh1 ha1 => zd7 b o1 _ 1 0 (.inl rfl) (by omega) (by rw [zao]; decide) w1 hh1 ha1)) (fun _ _ h => goH h) fun ⟨o2, _⟩ => ?_
   refine goE ?_
   refine zau 8 ⟨by kernel_rfl, by decide⟩ rfl rfl (zba (pre := pks b o2 (beN 1 kd ++ beN 1 0)) rfl (by kernel_rfl) rfl (by simp [zac, zab]) (fun w1 hw1 hh1 ha1 => zd7 b o2 _ 2 nk (.inr (.inl rfl)) (by omega) (by rw [List.length_append, zao, zao]; decide) w1 hh1 ha1)) (fun _ _ h => goH h) fun ⟨o3, _⟩ => ?_
   refine goE ?_
   refine zbs (by kernel_rfl) ?_
   refine goA ?_
   obtain ⟨X0, hX0⟩ : ∃ x, beN 1 kd ++ beN 1 0 ++ beN 2 nk = x := ⟨_, rfl⟩
   have hX0l : X0.length = 4 := by rw [← hX0]; simp only [List.length_append, zao]
   refine zct (α := Nat × Option (Nat × Nat)) (fun y => [(2, .pointer (some ⟨b1, 0, none⟩)), (3, .pointer (some ⟨b2, 0, none⟩)), (7, .pointer (some ⟨b, 0, none⟩)), (35, .slice da nd dc), (36, .int .i64 nd), (37, .int .i64 y.1)]) (fun y => y.1 ≤ nd) (fun y => pks b y.2 (X0 ++ (n.kids.take y.1).flatMap (beN 2)) ++ [pt b2 (.cells #[.bool lf, .slice ka nk kc, .slice va nv vc, .slice da nd dc] 101 (0, 0)), pt b1 (.cells #[.int .i64 s.kw, .int .i64 s.vw] 45 (0, 0))]) (fun y => nd - y.1) (0, o3) ⟨rfl, rfl, rfl, rfl, rfl, rfl, trivial⟩ (Nat.zero_le _) (fun w' hw' => by rw [List.take_zero, List.flatMap_nil, List.append_nil, ← hX0]; exact hw') fun ⟨i, o⟩ h1 => ?_
   simp only at h1 ⊢
   have hfl : ((n.kids.take i).flatMap (beN 2)).length = (n.kids.take i).length * 2 := zjc _ _ 2 fun x _ => zao 2 x
   rw [List.length_take] at hfl
   by_cases hi : i < nd
   ·obtain ⟨b', off, rfl, hr'⟩ := rd.at_ (by intro h; have := congrArg List.length h; rw [List.length_map, List.length_nil] at this; omega)
    have hi' : i < n.kids.length := by omega
    obtain ⟨kq, hkq⟩ : ∃ x, n.kids[i]? = some x := ⟨_, List.getElem?_eq_getElem hi'⟩
    have hget : (n.kids.map iV)[i]? = some (iV kq) := by rw [List.getElem?_map, hkq]; rfl
    have hk1 : kq < 1024 := hkid kq (List.mem_of_getElem? hkq)
    refine goA ?_
    refine l_w rfl (zaz rfl rfl (fun w' hw' => zbg hr' (fun h => h) hw' i (iV kq) hget)) ?_
    unfold iV
    refine goA ?_
    refine zae rfl (zba (pre := pks b o (X0 ++ (n.kids.take i).flatMap (beN 2))) rfl (by kernel_rfl) rfl (by simp [zac, zab]) (fun w1 hw1 hh1 ha1 => zd7 b o _ 2 kq (.inr (.inl rfl)) (by omega) (by rw [List.length_append, hfl, hX0l]; omega) w1 hh1 ha1)) fun ⟨o', _⟩ => ?_
    dsimp only
    rw [List.append_assoc, ← qc2 hkq]
    refine goA ?_
    exact zay (i + 1, o') ⟨rfl, rfl, rfl, rfl, rfl, rfl, trivial⟩ hi (fun w' hw' => hw') (by simp only; omega)
   ·have he : n.kids.take i = n.kids := List.take_of_length_le (by omega)
    rw [he]
    rw [he] at hfl
    refine goA ?_
    obtain ⟨X1, hX1⟩ : ∃ x, X0 ++ n.kids.flatMap (beN 2) = x := ⟨_, rfl⟩
    have hX1l : X1.length ≤ 300000 := by rw [← hX1, List.length_append, hfl, hX0l]; omega
    rw [hX1]
    have hEl : (zud n).length = nk := by
     unfold zud
     rw [hlf]
     cases lf with
     | true =>
      have := (hm.leaf hlf).2.1
      rw [if_pos rfl, List.length_map, List.length_zip, ← this, hnk, Nat.min_self]
     | false => rw [if_neg Bool.false_ne_true]; exact hnk
    have hEc : ∀ x ∈ zud n, x.length ≤ 128 := fun x hx => by
     have q2 := hs.k2
     have q3 := hs.v2
     unfold zud at hx
     rw [hlf] at hx
     cases lf with
     | true =>
      rw [if_pos rfl] at hx
      obtain ⟨q, hq, rfl⟩ := List.mem_map.1 hx
      obtain ⟨g1, g2⟩ := List.of_mem_zip hq
      rw [List.length_append, hm.wide _ g1, (hm.leaf hlf).2.2.1 _ g2]
      omega
     | false =>
      rw [if_neg Bool.false_ne_true] at hx
      rw [hm.wide x hx]
      omega
    refine zct (α := Nat × Option (Nat × Nat)) (fun y => [(2, .pointer (some ⟨b1, 0, none⟩)), (3, .pointer (some ⟨b2, 0, none⟩)), (7, .pointer (some ⟨b, 0, none⟩)), (47, .slice ka nk kc), (48, .int .i64 nk), (49, .int .i64 y.1)]) (fun y => y.1 ≤ nk) (fun y => pks b y.2 (X1 ++ ((zud n).take y.1).flatten) ++ [pt b2 (.cells #[.bool lf, .slice ka nk kc, .slice va nv vc, .slice da nd dc] 101 (0, 0)), pt b1 (.cells #[.int .i64 s.kw, .int .i64 s.vw] 45 (0, 0))]) (fun y => nk - y.1) (0, o) ⟨rfl, rfl, rfl, rfl, rfl, rfl, trivial⟩ (Nat.zero_le _) (fun w' hw' => by rw [List.take_zero, List.flatten_nil, List.append_nil]; exact hw') fun ⟨i, o⟩ h1 => ?_
    simp only at h1 ⊢
    have hfl := qdd ((zud n).take i) 128 fun x hx => hEc x (List.mem_of_mem_take hx)
    rw [List.length_take] at hfl
    obtain ⟨Y, hY⟩ : ∃ y, X1 ++ ((zud n).take i).flatten = y := ⟨_, rfl⟩
    have hYl : Y.length ≤ 500000 := by rw [← hY, List.length_append]; omega
    by_cases hi : i < nk
    ·obtain ⟨b', off, rfl, hr'⟩ := rk.at_ (by intro h; have := congrArg List.length h; rw [List.length_map, List.length_nil] at this; omega)
     have hi' : i < n.keys.length := by omega
     obtain ⟨kq, hkq⟩ : ∃ x, n.keys[i]? = some x := ⟨_, List.getElem?_eq_getElem hi'⟩
     have hget : (n.keys.map kV)[i]? = some (kV kq) := by rw [List.getElem?_map, hkq]; rfl
     have hk64 := hb.kl kq (List.mem_of_getElem? hkq)
     rw [hY]
     refine goA ?_
     refine l_w rfl (zaz rfl rfl (fun w' hw' => zbg hr' (fun h => h) hw' i (kV kq) hget)) ?_
     unfold kV
     refine goA ?_
     refine zae rfl (zba (pre := pks b o Y) rfl (by kernel_rfl) rfl (by simp [zac, zab]) (fun w1 hw1 hh1 ha1 => zgb b o Y (kB kq) (by rw [zlv]; omega) w1 hh1 ha1)) fun ⟨o', _⟩ => ?_
     dsimp only
     rw [qgn]
     cases lf with
     | true =>
      have hvn := (hm.leaf hlf).2.1
      obtain ⟨c', off2, rfl, hr2⟩ := rv.at_ (by intro h; have := congrArg List.length h; rw [List.length_map, List.length_nil] at this; omega)
      have hi2 : i < n.vals.length := by omega
      obtain ⟨vq, hvq⟩ : ∃ x, n.vals[i]? = some x := ⟨_, List.getElem?_eq_getElem hi2⟩
      have hget2 : (n.vals.map kV)[i]? = some (kV vq) := by rw [List.getElem?_map, hvq]; rfl
      have hv64 := hb.vl vq (List.mem_of_getElem? hvq)
      refine goA ?_
      refine l_w rfl (zaz rfl rfl (fun w' hw' => zbg hr2 (fun h => h) hw' i (kV vq) hget2)) ?_
      unfold kV
      refine goA ?_
      refine zae rfl (zba (pre := pks b o' (Y ++ kq)) rfl (by kernel_rfl) rfl (by simp [zac, zab]) (fun w1 hw1 hh1 ha1 => zgb b o' (Y ++ kq) (kB vq) (by rw [zlv, List.length_append]; omega) w1 hh1 ha1)) fun ⟨o'', _⟩ => ?_
      dsimp only
      rw [qgn]
      have hE : (zud n)[i]? = some (kq ++ vq) := by
       unfold zud
       rw [hlf, if_pos rfl, List.getElem?_map, show (n.keys.zip n.vals)[i]? = some (kq, vq) from List.getElem?_zip_eq_some.2 ⟨hkq, hvq⟩]
       rfl
      have hZ : Y ++ kq ++ vq = X1 ++ ((zud n).take (i + 1)).flatten := by rw [zvb hE, ← hY, List.append_assoc, List.append_assoc]
      rw [hZ]
      refine goA ?_
      exact zay (i + 1, o'') ⟨rfl, rfl, rfl, rfl, rfl, rfl, trivial⟩ hi (fun w' hw' => hw') (by simp only; omega)
     | false =>
      have hE : (zud n)[i]? = some kq := by
       unfold zud
       rw [hlf, if_neg Bool.false_ne_true]
       exact hkq
      have hZ : Y ++ kq = X1 ++ ((zud n).take (i + 1)).flatten := by rw [zvb hE, ← hY, List.append_assoc]
      rw [hZ]
      refine goA ?_
      exact zay (i + 1, o') ⟨rfl, rfl, rfl, rfl, rfl, rfl, trivial⟩ hi (fun w' hw' => hw') (by simp only; omega)
    ·have he : (zud n).take i = zud n := List.take_of_length_le (by omega)
     rw [he, qc7] at hY ⊢
     have hbody : Y = znr n := by
      rw [← hY, ← hX1, ← hX0, ← hkd]
      unfold znr
      rw [hlf, hnk]
      simp only [List.append_assoc]
     rw [hY, hbody]
     have hbl : (znr n).length ≤ 512 := zyv hs.k1 hm
     obtain ⟨B, hB⟩ : ∃ x, znr n = x := ⟨_, rfl⟩
     have hP : zcg n = B ++ List.replicate (512 - B.length) 0 := by rw [← hB]; rfl
     rw [hB] at hbl ⊢
     rw [hP]
     refine goA ?_
     refine zae rfl (zba (pre := pks b o B) rfl (by kernel_rfl) rfl (by simp [zac, zab]) (fun w1 hw1 hh1 ha1 => zfe b o B (by omega) w1 hh1 ha1)) fun ⟨o6, _⟩ => ?_
     dsimp only
     refine zea (fun w hw => (zav (hw.item (own 5 1 o6 B.length (zaf B)) (.head _)).1)) fun ⟨hsl, hcap⟩ => ?_
     rw [hsl]
     refine goA ?_
     refine l_w rfl (zm1 (c := ((512 - B.length : Nat) : Int)) rfl rfl (by omega)) ?_
     refine goA ?_
     refine zae rfl (zag rfl (by kernel_rfl) rfl (fun w1 hw1 => zis (512 - B.length) (by omega) w1)) fun _ => ?_
     have hrl : (⟨(List.replicate (512 - B.length) (0 : UInt8)).toArray⟩ : ByteArray).size = 512 - B.length := by rw [bal, List.length_replicate]
     rw [← hsl]
     refine za0 rfl (zzd (e := 5) rfl rfl rfl rfl rfl rfl (by rw [hrl]; omega)) fun o' => ?_
     rw [hrl, show B.length + (512 - B.length) = 512 by omega, ← zje]
     refine goA ?_
     exact zdq (some o') rfl rfl rfl rfl rfl (.cons_cons _ (List.nil_sublist _)) (by simp [zab])
 ·rw [decide_eq_false hm]
  refine goA ?_
  exact zdq none rfl rfl rfl rfl rfl (List.nil_sublist _) (fun _ h => nomatch h)
end Go.Proofs.YtkkfifhaobjicaaGreatDoor
