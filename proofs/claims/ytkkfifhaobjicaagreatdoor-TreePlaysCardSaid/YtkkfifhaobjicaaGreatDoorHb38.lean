/- slices.Insert at strings and ints: rows that are owned. Printed by wip/bench/sli.py. Own work; no condition. -/
import Derived.Test.YtkkfifhaobjicaaGreatDoorHb36
import Derived.Test.YtkkfifhaobjicaaGreatDoorHb05
namespace Go.Proofs.YtkkfifhaobjicaaGreatDoor
open Go.RowKit Go.Eng Go.Eng.Tr
set_option maxRecDepth 100000
set_option maxHeartbeats 40000000
theorem zhp (o : Option (Nat × Nat)) (n i : Nat) (xs : List Value) (x : Value) (vb : Nat) (h1 : zbz xs = true) (h1x : zbz [x] = true) (hi : i ≤ n) (hn : n ≤ 1000000) (w : World) (hw : ∀ it ∈ [own 9 1 o n xs, own 9 1 (some (vb, 1)) 1 [x]], za2 it w) (ha : [own 9 1 o n xs, own 9 1 (some (vb, 1)) 1 [x]].Pairwise Eng.Item.Apart) :
  Ct Tryz.prog 70 #[slV o n, .int .i64 (i : Nat), .slice (some ⟨vb, 0, none⟩) 1 1] w (zap [own 9 1 o n xs, own 9 1 (some (vb, 1)) 1 [x]]) (fun o' : Option (Nat × Nat) => slV o' (n + 1)) (fun _ => True) (fun o' => [own 9 1 o' (n + 1) (ins xs i x)]) := by
 have hxl : xs.length = n := by have := (hw _ (.head _)).1.1; rwa [Nat.mul_one] at this
 obtain ⟨hv, hnc⟩ := zav (hw _ (.head _)).1
 refine zbd [_, _, _] _ Tryz.func70 rfl rfl hw ha ?_
 by_cases hin : i = n
 ·subst hin
  have hins : ins xs i x = xs ++ [x] := by unfold ins; rw [List.take_of_length_le (by omega), List.drop_eq_nil_of_le (by omega)]
  rw [hins]
  simp only [zaa, Nat.reduceAdd]
  rw [hv]
  refine goA ?_
  rw [← hv]
  refine za0 rfl (zdj (news := [x]) rfl rfl rfl rfl rfl rfl rfl h1x (by omega) (fun w' hw' j v hj => by rw [zc8, Nat.zero_add]; exact zbo (hw'.item _ (.tail _ (.head _))).1 j v hj)) fun o' => ?_
  refine goA ?_
  exact zbw o' rfl rfl rfl trivial (.cons_cons _ (List.nil_sublist _)) (by simp [zab])
 ·have hin : i < n := by omega
  obtain ⟨b, c, rfl⟩ : ∃ b c, o = some (b, c) := by
   cases o with
   | none => exact absurd (hw _ (.head _)).1.2 (by show ¬ (n = 0); omega)
   | some p => exact ⟨p.1, p.2, rfl⟩
  have hcm : c ≤ maxLen := (hw _ (.head _)).1.2.2.1
  unfold maxLen at hcm
  have hnc : n ≤ c := hnc
  have hne : vb ≠ b := fun e => (List.pairwise_cons.1 ha).1 _ (.head _) b ⟨c, rfl⟩ ⟨1, by rw [e]⟩
  have hsplit : xs.take i ++ xs.drop i = xs := List.take_append_drop i xs
  have hAl : (xs.take i).length = i := by rw [List.length_take]; omega
  have hBl : (xs.drop i).length = n - i := by rw [List.length_drop]; omega
  have hB0 : xs.drop i ≠ [] := fun h => by rw [h] at hBl; simp at hBl; omega
  have h1B : zbz (xs.drop i) = true := za4.2 fun v hv => za4.1 h1 v (List.mem_of_mem_drop hv)
  simp only [zaa, Nat.reduceAdd]
  simp only [slV]
  refine qpd (fun w hw => hw.cut) fun zs hz => ?_
  have hat : ∀ (j : Nat) v, (xs.drop i)[j]? = some v → (xs ++ zs)[i + j]? = some v := fun j v h => by
   rw [List.getElem?_drop] at h
   rw [List.getElem?_append_left (List.getElem?_eq_some_iff.1 h).1]; exact h
  by_cases hroom : n + 1 ≤ c
  ·obtain ⟨z, zs', rfl⟩ := List.exists_cons_of_ne_nil (show zs ≠ [] from fun h => by rw [h] at hz; simp at hz; omega)
   refine goA ?_
   rw [zca (by omega)]
   refine l_w rfl (qj0 Tryz.func110 (by kernel_rfl) (by kernel_rfl) (by kernel_rfl) (E := Extern.SlicesOverlaps.overlaps #[37, 37] #[4]) (by kernel_rfl) rfl fun w' hw' => by rw [Nat.zero_add]; exact zjs rfl rfl (hw'.item _ (.tail _ (.head _))).1 (hw'.get (.head _)) hne (by simp)) ?_
   refine goA ?_
   refine zaq [1] 9 rfl rfl (by kernel_rfl) ?_
   refine goE ?_
   rw [zca (by omega), zca (by omega)]
   refine zau 8 ⟨by kernel_rfl, by decide⟩ rfl rfl (zhw (cs := xs.drop i) (cur := xs ++ z :: zs') rfl rfl rfl rfl rfl (by rw [hBl]; omega) (fun w' hw' => by rw [Nat.zero_add, Nat.mul_one]; exact zqz (hw'.get (.head _)) hat) (fun h => nomatch h) (by rw [hBl]; simp; omega) h1B) (fun _ _ h => goH h) fun _ => ?_
   refine zbs (by kernel_rfl) ?_
   refine goA ?_
   rw [zca (by omega)]
   refine za0 rfl (zhw (cs := [x]) rfl rfl rfl rfl rfl (by simp; omega) (fun w' hw' => .inr ⟨vb, 0, rfl, fun j v hj => by rw [Nat.zero_add]; exact zbo (hw'.item (own 9 1 (some (vb, 1)) 1 [x]) (.tail _ (.head _))).1 j v hj⟩) (fun h => nomatch h) (by rw [zge (by rw [hBl]; simp; omega)]; simp; omega) h1x) fun _ => ?_
   rw [show put (put (xs ++ z :: zs') (0 + (i + 1) * 1) (xs.drop i)) (0 + i * 1) [x] = ins xs i x ++ zs' by
    have := zu7 (A := xs.take i) (B := xs.drop i) (zs := zs') (z := z) (x := x) hB0
    rw [hsplit, hAl] at this
    rw [Nat.zero_add, Nat.zero_add, Nat.mul_one, Nat.mul_one, this]
    rfl]
   refine goA ?_
   refine zb3 (fun w hw => hw.glue (n := n + 1) (c := c) (by unfold ins; simp; omega) (by simp at hz; omega) hroom (by unfold maxLen; omega)) ?_
   exact zbw (some (b, c)) rfl rfl rfl trivial (.cons_cons _ (List.nil_sublist _)) (by simp [zab])
  ·obtain rfl : c = n := by omega
   refine goA ?_
   refine za0 rfl (zz9 (olds := xs.take i) (z := .string ⟨#[]⟩) rfl rfl rfl rfl rfl rfl rfl (by omega) (by omega) (by omega) hAl (fun h => nomatch h) (fun w' hw' => zqz (hw'.get (.head _)) fun j v h => by
    have hj := (List.getElem?_eq_some_iff.1 h).1
    rw [List.getElem?_take_of_lt (by omega)] at h
    rw [Nat.zero_add, List.getElem?_append_left (by omega)]; exact h)) fun ⟨⟨b2, c2⟩, hb2, hc2⟩ => ?_
   simp only at hc2 ⊢
   rw [show i + (c + 1 - i) = c + 1 by omega] at hc2 ⊢
   refine zea (fun w hw => (hw.item _ (.head _)).1.2.2.1) fun hcm2 => ?_
   refine qqy (fun w hw => hw.cut) fun zs2 hz2 => ?_
   refine goA ?_
   rw [zca (by omega)]
   refine za0 rfl (zhw (cs := [x]) rfl rfl rfl rfl rfl (by simp; omega) (fun w' hw' => .inr ⟨vb, 0, rfl, fun j v hj => by rw [Nat.zero_add]; exact zbo (hw'.item (own 9 1 (some (vb, 1)) 1 [x]) (.tail _ (.tail _ (.head _)))).1 j v hj⟩) (fun h => nomatch h) (by simp; omega) h1x) fun _ => ?_
   refine goA ?_
   refine zaq [1, 2] 9 rfl rfl (by kernel_rfl) ?_
   refine goE ?_
   rw [zca (by omega), zca (by omega)]
   refine zau 8 ⟨by kernel_rfl, by decide⟩ rfl rfl (zhw (cs := xs.drop i) rfl rfl rfl rfl rfl (by rw [hBl]; omega) (fun w' hw' => by rw [Nat.zero_add, Nat.mul_one]; exact zqz (hw'.get (.tail _ (.head _))) hat) (fun h => nomatch h) (by rw [hBl, zge (by simp; omega)]; simp; omega) h1B) (fun _ _ h => goH h) fun _ => ?_
   refine zbs (by kernel_rfl) ?_
   refine goA ?_
   rw [show put (put (xs.take i ++ List.replicate (c + 1 - i) (.string ⟨#[]⟩) ++ zs2) (0 + i * 1) [x]) (0 + (i + 1) * 1) (xs.drop i) = ins xs i x ++ zs2 by
    have := zz2 (A := xs.take i) (B := xs.drop i) (Z := List.replicate (c + 1 - i) (.string ⟨#[]⟩)) (zs := zs2) (x := x) (by rw [hBl]; simp; omega)
    rw [hAl] at this
    rw [Nat.zero_add, Nat.zero_add, Nat.mul_one, Nat.mul_one, this]
    rfl]
   refine zb3 (fun w hw => hw.glue (n := c + 1) (c := c2) (by unfold ins; simp; omega) hz2 hc2 hcm2) ?_
   exact zbw (some (b2, c2)) rfl rfl rfl trivial (.cons_cons _ (List.nil_sublist _)) (by simp [zab])
theorem zsh (o : Option (Nat × Nat)) (n i : Nat) (xs : List Value) (x : Value) (vb : Nat) (h1 : zbz xs = true) (h1x : zbz [x] = true) (hi : i ≤ n) (hn : n ≤ 1000000) (w : World) (hw : ∀ it ∈ [own 3 1 o n xs, own 3 1 (some (vb, 1)) 1 [x]], za2 it w) (ha : [own 3 1 o n xs, own 3 1 (some (vb, 1)) 1 [x]].Pairwise Eng.Item.Apart) :
  Ct Tryz.prog 72 #[slV o n, .int .i64 (i : Nat), .slice (some ⟨vb, 0, none⟩) 1 1] w (zap [own 3 1 o n xs, own 3 1 (some (vb, 1)) 1 [x]]) (fun o' : Option (Nat × Nat) => slV o' (n + 1)) (fun _ => True) (fun o' => [own 3 1 o' (n + 1) (ins xs i x)]) := by
 have hxl : xs.length = n := by have := (hw _ (.head _)).1.1; rwa [Nat.mul_one] at this
 obtain ⟨hv, hnc⟩ := zav (hw _ (.head _)).1
 refine zbd [_, _, _] _ Tryz.func72 rfl rfl hw ha ?_
 by_cases hin : i = n
 ·subst hin
  have hins : ins xs i x = xs ++ [x] := by unfold ins; rw [List.take_of_length_le (by omega), List.drop_eq_nil_of_le (by omega)]
  rw [hins]
  simp only [zaa, Nat.reduceAdd]
  rw [hv]
  refine goA ?_
  rw [← hv]
  refine za0 rfl (zdj (news := [x]) rfl rfl rfl rfl rfl rfl rfl h1x (by omega) (fun w' hw' j v hj => by rw [zc8, Nat.zero_add]; exact zbo (hw'.item _ (.tail _ (.head _))).1 j v hj)) fun o' => ?_
  refine goA ?_
  exact zbw o' rfl rfl rfl trivial (.cons_cons _ (List.nil_sublist _)) (by simp [zab])
 ·have hin : i < n := by omega
  obtain ⟨b, c, rfl⟩ : ∃ b c, o = some (b, c) := by
   cases o with
   | none => exact absurd (hw _ (.head _)).1.2 (by show ¬ (n = 0); omega)
   | some p => exact ⟨p.1, p.2, rfl⟩
  have hcm : c ≤ maxLen := (hw _ (.head _)).1.2.2.1
  unfold maxLen at hcm
  have hnc : n ≤ c := hnc
  have hne : vb ≠ b := fun e => (List.pairwise_cons.1 ha).1 _ (.head _) b ⟨c, rfl⟩ ⟨1, by rw [e]⟩
  have hsplit : xs.take i ++ xs.drop i = xs := List.take_append_drop i xs
  have hAl : (xs.take i).length = i := by rw [List.length_take]; omega
  have hBl : (xs.drop i).length = n - i := by rw [List.length_drop]; omega
  have hB0 : xs.drop i ≠ [] := fun h => by rw [h] at hBl; simp at hBl; omega
  have h1B : zbz (xs.drop i) = true := za4.2 fun v hv => za4.1 h1 v (List.mem_of_mem_drop hv)
  simp only [zaa, Nat.reduceAdd]
  simp only [slV]
  refine qpd (fun w hw => hw.cut) fun zs hz => ?_
  have hat : ∀ (j : Nat) v, (xs.drop i)[j]? = some v → (xs ++ zs)[i + j]? = some v := fun j v h => by
   rw [List.getElem?_drop] at h
   rw [List.getElem?_append_left (List.getElem?_eq_some_iff.1 h).1]; exact h
  by_cases hroom : n + 1 ≤ c
  ·obtain ⟨z, zs', rfl⟩ := List.exists_cons_of_ne_nil (show zs ≠ [] from fun h => by rw [h] at hz; simp at hz; omega)
   refine goA ?_
   rw [zca (by omega)]
   refine l_w rfl (qj0 Tryz.func112 (by kernel_rfl) (by kernel_rfl) (by kernel_rfl) (E := Extern.SlicesOverlaps.overlaps #[99, 99] #[4]) (by kernel_rfl) rfl fun w' hw' => by rw [Nat.zero_add]; exact zjs rfl rfl (hw'.item _ (.tail _ (.head _))).1 (hw'.get (.head _)) hne (by simp)) ?_
   refine goA ?_
   refine zaq [1] 9 rfl rfl (by kernel_rfl) ?_
   refine goE ?_
   rw [zca (by omega), zca (by omega)]
   refine zau 8 ⟨by kernel_rfl, by decide⟩ rfl rfl (zhw (cs := xs.drop i) (cur := xs ++ z :: zs') rfl rfl rfl rfl rfl (by rw [hBl]; omega) (fun w' hw' => by rw [Nat.zero_add, Nat.mul_one]; exact zqz (hw'.get (.head _)) hat) (fun h => nomatch h) (by rw [hBl]; simp; omega) h1B) (fun _ _ h => goH h) fun _ => ?_
   refine zbs (by kernel_rfl) ?_
   refine goA ?_
   rw [zca (by omega)]
   refine za0 rfl (zhw (cs := [x]) rfl rfl rfl rfl rfl (by simp; omega) (fun w' hw' => .inr ⟨vb, 0, rfl, fun j v hj => by rw [Nat.zero_add]; exact zbo (hw'.item (own 3 1 (some (vb, 1)) 1 [x]) (.tail _ (.head _))).1 j v hj⟩) (fun h => nomatch h) (by rw [zge (by rw [hBl]; simp; omega)]; simp; omega) h1x) fun _ => ?_
   rw [show put (put (xs ++ z :: zs') (0 + (i + 1) * 1) (xs.drop i)) (0 + i * 1) [x] = ins xs i x ++ zs' by
    have := zu7 (A := xs.take i) (B := xs.drop i) (zs := zs') (z := z) (x := x) hB0
    rw [hsplit, hAl] at this
    rw [Nat.zero_add, Nat.zero_add, Nat.mul_one, Nat.mul_one, this]
    rfl]
   refine goA ?_
   refine zb3 (fun w hw => hw.glue (n := n + 1) (c := c) (by unfold ins; simp; omega) (by simp at hz; omega) hroom (by unfold maxLen; omega)) ?_
   exact zbw (some (b, c)) rfl rfl rfl trivial (.cons_cons _ (List.nil_sublist _)) (by simp [zab])
  ·obtain rfl : c = n := by omega
   refine goA ?_
   refine za0 rfl (zz9 (olds := xs.take i) (z := .int .i64 0) rfl rfl rfl rfl rfl rfl rfl (by omega) (by omega) (by omega) hAl (fun h => nomatch h) (fun w' hw' => zqz (hw'.get (.head _)) fun j v h => by
    have hj := (List.getElem?_eq_some_iff.1 h).1
    rw [List.getElem?_take_of_lt (by omega)] at h
    rw [Nat.zero_add, List.getElem?_append_left (by omega)]; exact h)) fun ⟨⟨b2, c2⟩, hb2, hc2⟩ => ?_
   simp only at hc2 ⊢
   rw [show i + (c + 1 - i) = c + 1 by omega] at hc2 ⊢
   refine zea (fun w hw => (hw.item _ (.head _)).1.2.2.1) fun hcm2 => ?_
   refine qqy (fun w hw => hw.cut) fun zs2 hz2 => ?_
   refine goA ?_
   rw [zca (by omega)]
   refine za0 rfl (zhw (cs := [x]) rfl rfl rfl rfl rfl (by simp; omega) (fun w' hw' => .inr ⟨vb, 0, rfl, fun j v hj => by rw [Nat.zero_add]; exact zbo (hw'.item (own 3 1 (some (vb, 1)) 1 [x]) (.tail _ (.tail _ (.head _)))).1 j v hj⟩) (fun h => nomatch h) (by simp; omega) h1x) fun _ => ?_
   refine goA ?_
   refine zaq [1, 2] 9 rfl rfl (by kernel_rfl) ?_
   refine goE ?_
   rw [zca (by omega), zca (by omega)]
   refine zau 8 ⟨by kernel_rfl, by decide⟩ rfl rfl (zhw (cs := xs.drop i) rfl rfl rfl rfl rfl (by rw [hBl]; omega) (fun w' hw' => by rw [Nat.zero_add, Nat.mul_one]; exact zqz (hw'.get (.tail _ (.head _))) hat) (fun h => nomatch h) (by rw [hBl, zge (by simp; omega)]; simp; omega) h1B) (fun _ _ h => goH h) fun _ => ?_
   refine zbs (by kernel_rfl) ?_
   refine goA ?_
   rw [show put (put (xs.take i ++ List.replicate (c + 1 - i) (.int .i64 0) ++ zs2) (0 + i * 1) [x]) (0 + (i + 1) * 1) (xs.drop i) = ins xs i x ++ zs2 by
    have := zz2 (A := xs.take i) (B := xs.drop i) (Z := List.replicate (c + 1 - i) (.int .i64 0)) (zs := zs2) (x := x) (by rw [hBl]; simp; omega)
    rw [hAl] at this
    rw [Nat.zero_add, Nat.zero_add, Nat.mul_one, Nat.mul_one, this]
    rfl]
   refine zb3 (fun w hw => hw.glue (n := c + 1) (c := c2) (by unfold ins; simp; omega) hz2 hc2 hcm2) ?_
   exact zbw (some (b2, c2)) rfl rfl rfl trivial (.cons_cons _ (List.nil_sublist _)) (by simp [zab])
theorem zhy (b c n i : Nat) (xs : List Value) (h1 : zbz xs = true) (hi : i < n) (hn : n ≤ 1000000) (w : World) (hw : ∀ it ∈ [own 9 1 (some (b, c)) n xs], za2 it w) :
  Ct Tryz.prog 64 #[.slice (some ⟨b, 0, none⟩) n c, .int .i64 (i : Nat), .int .i64 ((i + 1 : Nat) : Int)] w (zap [own 9 1 (some (b, c)) n xs]) (fun _ : Unit => .slice (some ⟨b, 0, none⟩) (n - 1) c) (fun _ => True) (fun _ => [own 9 1 (some (b, c)) (n - 1) (xs.eraseIdx i)]) := by
 have hxl : xs.length = n := by have := (hw _ (.head _)).1.1; rwa [Nat.mul_one] at this
 have hnc : n ≤ c := (hw _ (.head _)).1.2.1
 have hcm : c ≤ maxLen := (hw _ (.head _)).1.2.2.1
 have hcm' := hcm
 unfold maxLen at hcm'
 refine zbd [_, _, _] _ Tryz.func64 rfl rfl hw (.cons (fun _ h => nomatch h) .nil) ?_
 have hBl : (xs.drop (i + 1)).length = n - (i + 1) := by rw [List.length_drop]; omega
 have h1B : zbz (xs.drop (i + 1)) = true := za4.2 fun v hv => za4.1 h1 v (List.mem_of_mem_drop hv)
 simp only [zaa, Nat.reduceAdd]
 refine qpd (fun w hw => hw.cut) fun zs hz => ?_
 have hat : ∀ (j : Nat) v, (xs.drop (i + 1))[j]? = some v → (xs ++ zs)[i + 1 + j]? = some v := fun j v h => by
  rw [List.getElem?_drop] at h
  rw [List.getElem?_append_left (List.getElem?_eq_some_iff.1 h).1]; exact h
 have herase : xs.eraseIdx i = xs.take i ++ xs.drop (i + 1) := List.eraseIdx_eq_take_drop_succ xs i
 refine goA ?_
 refine l_w rfl (qox rfl rfl rfl rfl rfl rfl ⟨by omega, by omega, by omega⟩) ?_
 refine goA ?_
 refine zaq [] 8 rfl rfl (by kernel_rfl) ?_
 refine goE ?_
 obtain ⟨a, hae, hac⟩ : ∃ a, zqr (some (⟨b, 0, none⟩ : Addr)) (decide (c = i + 1)) ((i + 1) * 1) = some a ∧ ∀ w : World, w.heap[b]? = some (.cells (xs ++ zs).toArray 9 (0, 0)) → ∀ (j : Nat) (v : Value), (xs.drop (i + 1))[j]? = some v → w.cell? (a.add j) = some v := by
  by_cases hc : c = i + 1
  ·refine ⟨_, by rw [decide_eq_true hc]; rfl, fun w' _ j v hj => ?_⟩
   have := (List.getElem?_eq_some_iff.1 hj).1
   omega
  ·refine ⟨⟨b, i + 1, none⟩, by rw [zca hc, Nat.zero_add, Nat.mul_one], fun w' hw' j v hj => ?_⟩
   rw [zc8]
   have := za7 hw' (i + 1 + j) v (hat j v hj)
   rwa [Nat.zero_add] at this
 rw [hae]
 refine zau 6 ⟨by kernel_rfl, by decide⟩ rfl rfl (qfw (news := xs.drop (i + 1)) rfl rfl rfl rfl rfl hBl h1B (by omega) (by simp; omega) (fun w' hw' => hac w' (hw'.get (.head _)))) (fun _ _ h => goH h) fun _ => ?_
 refine goE ?_
 refine zbs (by kernel_rfl) ?_
 rw [show i + (n - (i + 1)) = n - 1 by omega]
 refine goA ?_
 rw [zca (by omega)]
 refine za0 rfl (qaa (z := .string ⟨#[]⟩) rfl rfl rfl rfl rfl rfl (by omega) (by rw [zge (by rw [hBl]; simp; omega)]; simp; omega)) fun _ => ?_
 obtain ⟨y, hy⟩ : ∃ y, xs = xs.take i ++ y :: xs.drop (i + 1) := ⟨xs[i]'(by omega), by rw [← List.drop_eq_getElem_cons, List.take_append_drop]⟩
 have hAl : (xs.take i).length = i := by rw [List.length_take]; omega
 rw [show put (put (xs ++ zs) i (xs.drop (i + 1))) (0 + (n - 1) * 1) (List.replicate (n - (n - 1)) (.string ⟨#[]⟩)) = xs.eraseIdx i ++ (.string ⟨#[]⟩) :: zs by
  have := qgq (A := xs.take i) (B := xs.drop (i + 1)) (zs := zs) (y := y) (z := .string ⟨#[]⟩)
  rw [← hy, hAl, hBl] at this
  rw [show n - (n - 1) = 1 by omega, Nat.zero_add, Nat.mul_one, show n - 1 = i + (n - (i + 1)) by omega, herase]
  exact this]
 refine goA ?_
 refine zb3 (fun w hw => hw.glue (n := n - 1) (c := c) (by rw [List.length_eraseIdx_of_lt (by omega)]; omega) (by simp; omega) (by omega) hcm) ?_
 exact zbw () rfl rfl rfl trivial (.cons_cons _ (List.nil_sublist _)) (by simp [zab])
theorem zs0 (b c n i : Nat) (xs : List Value) (h1 : zbz xs = true) (hi : i < n) (hn : n ≤ 1000000) (w : World) (hw : ∀ it ∈ [own 3 1 (some (b, c)) n xs], za2 it w) :
  Ct Tryz.prog 107 #[.slice (some ⟨b, 0, none⟩) n c, .int .i64 (i : Nat), .int .i64 ((i + 1 : Nat) : Int)] w (zap [own 3 1 (some (b, c)) n xs]) (fun _ : Unit => .slice (some ⟨b, 0, none⟩) (n - 1) c) (fun _ => True) (fun _ => [own 3 1 (some (b, c)) (n - 1) (xs.eraseIdx i)]) := by
 have hxl : xs.length = n := by have := (hw _ (.head _)).1.1; rwa [Nat.mul_one] at this
 have hnc : n ≤ c := (hw _ (.head _)).1.2.1
 have hcm : c ≤ maxLen := (hw _ (.head _)).1.2.2.1
 have hcm' := hcm
 unfold maxLen at hcm'
 refine zbd [_, _, _] _ Tryz.func107 rfl rfl hw (.cons (fun _ h => nomatch h) .nil) ?_
 have hBl : (xs.drop (i + 1)).length = n - (i + 1) := by rw [List.length_drop]; omega
 have h1B : zbz (xs.drop (i + 1)) = true := za4.2 fun v hv => za4.1 h1 v (List.mem_of_mem_drop hv)
 simp only [zaa, Nat.reduceAdd]
 refine qpd (fun w hw => hw.cut) fun zs hz => ?_
 have hat : ∀ (j : Nat) v, (xs.drop (i + 1))[j]? = some v → (xs ++ zs)[i + 1 + j]? = some v := fun j v h => by
  rw [List.getElem?_drop] at h
  rw [List.getElem?_append_left (List.getElem?_eq_some_iff.1 h).1]; exact h
 have herase : xs.eraseIdx i = xs.take i ++ xs.drop (i + 1) := List.eraseIdx_eq_take_drop_succ xs i
 refine goA ?_
 refine l_w rfl (qox rfl rfl rfl rfl rfl rfl ⟨by omega, by omega, by omega⟩) ?_
 refine goA ?_
 refine zaq [] 8 rfl rfl (by kernel_rfl) ?_
 refine goE ?_
 obtain ⟨a, hae, hac⟩ : ∃ a, zqr (some (⟨b, 0, none⟩ : Addr)) (decide (c = i + 1)) ((i + 1) * 1) = some a ∧ ∀ w : World, w.heap[b]? = some (.cells (xs ++ zs).toArray 3 (0, 0)) → ∀ (j : Nat) (v : Value), (xs.drop (i + 1))[j]? = some v → w.cell? (a.add j) = some v := by
  by_cases hc : c = i + 1
  ·refine ⟨_, by rw [decide_eq_true hc]; rfl, fun w' _ j v hj => ?_⟩
   have := (List.getElem?_eq_some_iff.1 hj).1
   omega
  ·refine ⟨⟨b, i + 1, none⟩, by rw [zca hc, Nat.zero_add, Nat.mul_one], fun w' hw' j v hj => ?_⟩
   rw [zc8]
   have := za7 hw' (i + 1 + j) v (hat j v hj)
   rwa [Nat.zero_add] at this
 rw [hae]
 refine zau 6 ⟨by kernel_rfl, by decide⟩ rfl rfl (qfw (news := xs.drop (i + 1)) rfl rfl rfl rfl rfl hBl h1B (by omega) (by simp; omega) (fun w' hw' => hac w' (hw'.get (.head _)))) (fun _ _ h => goH h) fun _ => ?_
 refine goE ?_
 refine zbs (by kernel_rfl) ?_
 rw [show i + (n - (i + 1)) = n - 1 by omega]
 refine goA ?_
 rw [zca (by omega)]
 refine za0 rfl (qaa (z := .int .i64 0) rfl rfl rfl rfl rfl rfl (by omega) (by rw [zge (by rw [hBl]; simp; omega)]; simp; omega)) fun _ => ?_
 obtain ⟨y, hy⟩ : ∃ y, xs = xs.take i ++ y :: xs.drop (i + 1) := ⟨xs[i]'(by omega), by rw [← List.drop_eq_getElem_cons, List.take_append_drop]⟩
 have hAl : (xs.take i).length = i := by rw [List.length_take]; omega
 rw [show put (put (xs ++ zs) i (xs.drop (i + 1))) (0 + (n - 1) * 1) (List.replicate (n - (n - 1)) (.int .i64 0)) = xs.eraseIdx i ++ (.int .i64 0) :: zs by
  have := qgq (A := xs.take i) (B := xs.drop (i + 1)) (zs := zs) (y := y) (z := .int .i64 0)
  rw [← hy, hAl, hBl] at this
  rw [show n - (n - 1) = 1 by omega, Nat.zero_add, Nat.mul_one, show n - 1 = i + (n - (i + 1)) by omega, herase]
  exact this]
 refine goA ?_
 refine zb3 (fun w hw => hw.glue (n := n - 1) (c := c) (by rw [List.length_eraseIdx_of_lt (by omega)]; omega) (by simp; omega) (by omega) hcm) ?_
 exact zbw () rfl rfl rfl trivial (.cons_cons _ (List.nil_sublist _)) (by simp [zab])
end Go.Proofs.YtkkfifhaobjicaaGreatDoor
