/- The document's pages (armariumref08): Page, with. -/
/- The document's pages (armariumref08): Has, set. -/
/- The document's pages (armariumref08): Put, Alloc, Free, Abort, Commit, New. -/
/- The document's pages (armariumref08): Alloc, Commit, New. -/
/- The plain law of the store: a store, and the document's. -/
/- tree: what a tree's pages are in a store. Own work; no condition. -/
/- Deferred calls: one is laid by, and made at the end. Own work; no condition. -/
/- Panics: raised by an operation, or by a callee; what passes them on; the end. Own work; no condition. -/
import Derived.Test.YtkkfifhaobjicaaGreatDoorHb34
import Derived.Test.YtkkfifhaobjicaaGreatDoorHb11
import Derived.Test.YtkkfifhaobjicaaGreatDoorHb23
import Derived.Test.YtkkfifhaobjicaaGreatDoorHb15
import Derived.Recover
namespace Go.Proofs.YtkkfifhaobjicaaGreatDoor
open Go.RowKit Go.Eng Go.Eng.Bm
set_option maxRecDepth 100000
def cpF (C : PR) : Nat → PR
 | 0 => []
 | k + 1 => (C.lookup k).elim (cpF C k) (zep (cpF C k) k)
theorem zrb (C : PR) (i : Nat) : ∀ n, (cpF C n).lookup i = if i < n then C.lookup i else none
 | 0 => rfl
 | k + 1 => by
  have ih := zrb C i k
  unfold cpF
  by_cases hik : i = k
  ·subst hik
   rw [if_pos (Nat.lt_succ_self _)]
   cases hl : C.lookup i with
   | some x =>
    show (zep (cpF C i) i x).lookup i = _
    rw [zc5, if_pos rfl]
   | none =>
    show (cpF C i).lookup i = none
    rw [ih, if_neg (Nat.lt_irrefl _)]
  ·have e : (if i < k + 1 then C.lookup i else none) = if i < k then C.lookup i else none := by
    by_cases h : i < k
    ·rw [if_pos h, if_pos (by omega)]
    ·rw [if_neg h, if_neg (by omega)]
   rw [e, ← ih]
   cases C.lookup k with
   | some x =>
    show (zep (cpF C k) k x).lookup i = _
    rw [zc5, if_neg hik]
   | none => rfl
theorem zoc (C : PR) : ∀ n, ((cpF C n).map (·.1)).Nodup
 | 0 => List.nodup_nil
 | k + 1 => by
  unfold cpF
  cases C.lookup k with
  | some x => exact zl1 (zoc C k)
  | none => exact zoc C k
def qmr (n : Nat) (C : PR) (i : Nat) (s : Bys) : PR := zep (cpF C n) i s
end Go.Proofs.YtkkfifhaobjicaaGreatDoor
namespace Go.Eng
open Go.RowKit
end Go.Eng
namespace Go.Proofs.YtkkfifhaobjicaaGreatDoor
open Go.RowKit Go.Eng Go.Eng.Bm
set_option maxRecDepth 100000
end Go.Proofs.YtkkfifhaobjicaaGreatDoor
namespace Go.Eng
open Go.RowKit
theorem qpp {P : Program} {cd : Code} {Q : Exit → Act → World → Prop} {N : Fm} {l : zat} {w0 : World} {F : Nat → Prop} {m : List Item} {e : TypeId} {sz n : Nat} {o : Option (Nat × Nat)} {xs : List Value} (hn : 0 < n)
  (h : ∀ (b c : Nat) (cur : Array Value), o = some (b, c) → n ≤ c → cur.size = c * sz → cur.toList.take (n * sz) = xs → HT P cd Q N l (Hp w0 F (pt b (.cells cur e (0, 0)) :: m))) : HT P cd Q N l (Hp w0 F (own e sz o n xs :: m)) := by
 unfold HT at *
 intro a w s hw
 have hp := (hw.item (own e sz o n xs) (.head _)).1
 obtain ⟨h1, h2⟩ := hp
 cases o with
 | none => exact absurd h2 (by show ¬ n = 0; omega)
 | some p =>
  obtain ⟨b, c⟩ := p
  obtain ⟨h3, -, cur, h4, h5, h6⟩ := h2
  refine h b c cur rfl h3 h5 h6 a w s (hw.imp (fun k hk => ⟨c, by rw [show k = b from hk]⟩) (fun _ => h4) ((zac _ _ _)))
end Go.Eng
namespace Go.Proofs.YtkkfifhaobjicaaGreatDoor
open Go.RowKit Go.Eng Go.Eng.Bm
set_option maxRecDepth 100000
def rsI (b : Nat) (V : List Bys) : Eng.Item := ⟨fun k => k = b, fun w => w.rangeAt b 0 (zfw V) ∧ b < w.heap.size⟩
theorem zjh (b : Nat) (V : List Bys) : (rsI b V).Stable none' := fun w w' h ⟨hp, hl⟩ => by
 have hb := h b (.inr rfl)
 refine ⟨fun j v hj => ?_, ?_⟩
 ·rw [← hp j v hj]
  exact World.cell?_of_block (w := w) hb
 ·rcases Nat.lt_or_ge b w'.heap.size with h1 | h1
  ·exact h1
  ·rw [Array.getElem?_eq_none h1] at hb
   rw [Array.getElem?_eq_getElem hl] at hb
   cases hb
theorem qpr {b : Nat} {V : List Bys} {T : List Value} {E : TypeId} {w w0 : World} {F : Nat → Prop} {m : List Eng.Item} (h : Hp w0 F (pt b (.cells (zfw V ++ T).toArray E (0, 0)) :: m) w) : Hp w0 F (rsI b V :: m) w :=
 h.imp (fun _ h => h) (fun hp => ⟨by have := zfp (k := (zfw V).length) (za7 hp); rwa [List.take_left] at this, (Array.getElem?_eq_some_iff.1 hp).1⟩) ((zjh _ _).ro _)
end Go.Proofs.YtkkfifhaobjicaaGreatDoor
namespace Go.Proofs.YtkkfifhaobjicaaGreatDoor
open Go.RowKit Go.Eng Go.Eng.Bm
set_option maxRecDepth 100000
set_option maxHeartbeats 40000000
theorem zv9 (V : List Bys) : (zfw V).length = V.length := List.length_map _
theorem qd7 (V : List Bys) (i : Nat) (s : Bys) : (zfw V).set i (qkb s) = zfw (V.set i s) := by
 unfold zfw
 rw [List.map_set]; rfl
theorem qin (n : Nat) (h : 0 < n) : Value.string (⟨#[1]⟩ ++ (⟨zdr.toArray⟩ : ByteArray).extract 1 (⟨zdr.toArray⟩ : ByteArray).size) = qkb (bm0 n) := by
 rw [qoy n h]
 refine congrArg Value.string (qcx ?_)
 rw [ByteArray.data_append, Array.toList_append, zuv]
 show [1] ++ zdr.drop 1 = 1 :: List.replicate 511 0
 unfold zdr
 rw [List.drop_replicate]
 rfl
theorem qgp : (⟨zdr.toArray⟩ : ByteArray).size = 512 := by show zdr.toArray.size = 512; rw [List.size_toArray, zdr, List.length_replicate]
theorem qbm (n : Nat) (h0 : 0 < n) (hn : n ≤ 1000) (w : World) :
  Ct Tryz.prog 52 #[.int .i64 (n : Int)] w none' (fun y : Nat × Nat × Nat => wV y.1 y.2.1 (V0 n) y.2.2) (fun _ => True) (fun y => [rsI y.1 (V0 n), mC y.2.2 []]) := by
 refine zfo [_] Tryz.func52 rfl rfl ?_
 have hrz := zw7
 have hone := qin n h0
 have hz1 : (@OfNat.ofNat Nat 1 _) ≤ (⟨zdr.toArray⟩ : ByteArray).size := by rw [qgp]; exact Nat.le_of_ble_eq_true rfl
 have hz2 : (⟨#[1]⟩ : ByteArray).size + ((⟨zdr.toArray⟩ : ByteArray).extract 1 (⟨zdr.toArray⟩ : ByteArray).size).size < 9223372036854775808 := by
  rw [ByteArray.size_extract, qgp]; show 1 + (min 512 512 - 1) < _; omega
 have hVn := qjk n
 have hV0 : (zfw (List.replicate n zdr)).set 0 (qkb (bm0 n)) = zfw (V0 n) := by
  rw [qd7]
  congr 1
  apply List.ext_getElem?
  intro j
  rw [List.getElem?_set]
  by_cases hj : j < n
  ·rw [qij hj, List.getElem?_replicate, if_pos hj]
   by_cases hj0 : 0 = j
   ·subst hj0
    rw [if_pos rfl, if_pos (by rw [List.length_replicate]; exact h0), if_pos rfl]
   ·rw [if_neg hj0, if_neg (fun h => hj0 h.symm)]
  ·rw [if_neg (by omega), List.getElem?_eq_none (by rw [List.length_replicate]; omega), List.getElem?_eq_none (by omega)]
 generalize bm0 n = t at hV0 hone
 generalize V0 n = V at hV0 hVn ⊢
 generalize zdr = z at hrz hone hz1 hz2 hV0
 simp only [zaa]
 refine goA ?_
 refine zan rfl rfl fun b2 hb2 => ?_
 refine goA ?_
 refine za0 rfl (zgd (q := .i64) rfl) fun ⟨mb, hmb⟩ => ?_
 refine goA ?_
 refine zan rfl rfl fun b3 hb3 => ?_
 refine goA ?_
 refine za0 rfl (zai (cs' := #[.slice none 0 0, .map (some mb)]) rfl rfl rfl rfl rfl rfl) fun _ => ?_
 refine goA ?_
 refine zr3 9 1 ?_
 refine zct (α := Nat × Option (Nat × Nat)) (fun y => [(0, .int .i64 (n : Int)), (2, .pointer (some ⟨b2, 0, none⟩)), (3, .pointer (some ⟨b3, 0, none⟩)), (4, .int .i64 y.1)]) (fun y => y.1 ≤ n)
  (fun y => [own 9 1 y.2 y.1 (zfw (List.replicate y.1 z)), pt b3 (.cells #[slV y.2 y.1, .map (some mb)] 66 (0, 0)), mC mb [], pt b2 (.cells #[.slice none 0 0, .map none] 66 (0, 0))]) (fun y => n - y.1) (0, none) ⟨rfl, rfl, rfl, rfl, trivial⟩ (Nat.zero_le _) (fun w' hw' => hw') fun ⟨i, o⟩ hi => ?_
 simp only at hi ⊢
 by_cases hi2 : i < n
 ·have hup : zfw (List.replicate (i + 1) z) = zfw (List.replicate i z) ++ [qkb z] := by rw [List.replicate_succ', zfw, List.map_append]; rfl
  refine goA ?_
  refine zaq [1, 2, 3] 6 rfl rfl (by kernel_rfl) ?_
  (repeat first | refine dAv [2] rfl rfl rfl ?_ | refine dno [2] rfl rfl rfl ?_ | refine dT [2] rfl rfl rfl rfl ?_ | refine dF [2] rfl rfl rfl rfl ?_)
  refine zau 2 ⟨by kernel_rfl, by decide⟩ rfl rfl (zag rfl (by kernel_rfl) rfl (fun w1 hw1 => hrz w1)) (fun _ _ h => goH h) fun _ => ?_
  refine goE ?_
  refine zau 3 ⟨by kernel_rfl, by decide⟩ rfl rfl (zbc (L := [(0, 1, qkb z)]) rfl rfl rfl rfl rfl rfl) (fun _ _ h => goH h) fun ⟨bq, hbq⟩ => ?_
  refine goE ?_
  refine zau 4 ⟨by kernel_rfl, by decide⟩ rfl rfl (zak (zci _ _ _) (zdj (news := [qkb z]) rfl rfl rfl rfl rfl rfl rfl rfl (by omega) (fun w' hw' j v hj => by rw [zc8, Nat.zero_add]; exact zbo (hw'.item _ (.tail _ (.head _))).1 j v hj))) (fun _ _ h => goH h) fun o' => ?_
  refine goE ?_
  refine zdk ⟨by kernel_rfl, by kernel_rfl⟩ rfl rfl (zak (zc9 _ _ _ _) (zaj rfl rfl rfl rfl (zq7 _ _) (zyz _ _) (show (0 : Nat) < 2 from by decide))) fun _ => ?_
  rw [← hup]
  refine goA ?_
  exact zay (i + 1, o') ⟨rfl, rfl, rfl, rfl, trivial⟩ hi2 (fun w' hw' => hw'.pick [1, 0, 3, 4] rfl rfl) (by simp only; omega)
 ·obtain rfl : i = n := by omega
  refine goA ?_
  refine qpp h0 fun bl cl cur ho hcl hcs hcu => ?_
  subst ho
  have hcur : cur = (zfw (List.replicate i z) ++ cur.toList.drop i).toArray := by
   rw [← hcu, Nat.mul_one, List.take_append_drop]
  generalize cur.toList.drop i = T at hcur
  rw [hcur]
  simp only [slV]
  refine zaq [0, 1, 2, 3] 6 rfl rfl (by kernel_rfl) ?_
  (repeat first | refine dAv [2] rfl rfl rfl ?_ | refine dno [2] rfl rfl rfl ?_ | refine dT [2] rfl rfl rfl rfl ?_ | refine dF [2] rfl rfl rfl rfl ?_)
  refine zau 2 ⟨by kernel_rfl, by decide⟩ rfl rfl (zag rfl (by kernel_rfl) rfl (fun w1 hw1 => hrz w1)) (fun _ _ h => goH h) fun _ => ?_
  refine goE ?_
  rw [hone]
  refine goE ?_
  refine zdk ⟨by kernel_rfl, by kernel_rfl⟩ rfl rfl (zaj rfl rfl rfl rfl rfl rfl (show 0 + 0 < (zfw (List.replicate i z) ++ T).toArray.size from by rw [List.size_toArray, List.length_append, zv9, List.length_replicate]; omega)) fun _ => ?_
  rw [Nat.zero_add, List.setIfInBounds_toArray, List.set_append_left _ _ (by rw [zv9, List.length_replicate]; exact h0), hV0]
  refine goA ?_
  refine za0 rfl (zak (zdl _ _ _ _ _) (zai (cs' := #[.slice (some ⟨bl, 0, none⟩) i cl, .map (some mb)]) rfl rfl rfl rfl rfl rfl)) fun _ => ?_
  refine goA ?_
  refine zb3 (m' := [rsI bl V, mC mb [], pt b2 (.cells #[.slice (some ⟨bl, 0, none⟩) i cl, .map (some mb)] 66 (0, 0))]) (fun w' hw' => qpr (hw'.pick [1, 3, 0] rfl rfl)) ?_
  rw [show (Value.slice (some ⟨bl, 0, none⟩) i cl) = .slice (some ⟨bl, 0, none⟩) V.length cl by rw [hVn]]
  exact zbw (bl, cl, mb) rfl ⟨_, rfl, zas rfl (.tail _ (.tail _ (.head _)))⟩ rfl trivial (.cons_cons _ (.cons_cons _ (List.nil_sublist _))) (by intro it hm; rcases hm with _ | ⟨_, _ | ⟨_, hm⟩⟩; exact zjh _ _; exact za6 _ _ _ _; cases hm)
end Go.Proofs.YtkkfifhaobjicaaGreatDoor
namespace Go.Proofs.YtkkfifhaobjicaaGreatDoor
open Go.Eng.Bm
set_option maxRecDepth 100000
structure StX (s : Pg) (D : Dsk) (n secs : Nat) (note : Bys) (V : List Bys) (C : PR) (B : Nat) : Prop where
 st : StV s D n secs note V B
 eC : ∀ i, C.lookup i = s.C.lookup i
 hCn : (C.map (·.1)).Nodup
 keep : D.keep.length ≤ 1000000
 p0 : ∃ S, qeb n (V.getD 0 []) S
 c0 : ∀ b, s.C.lookup 0 = some b → ∃ S, qeb n b S
theorem qg4 {A : PR} (hn : (A.map (·.1)).Nodup) {p : Nat × Bys} (hp : p ∈ A) : A.lookup p.1 = some p.2 := by
 induction A with
 | nil => cases hp
 | cons q A ih =>
  rw [List.map_cons, List.nodup_cons] at hn
  rw [List.lookup_cons]
  rcases List.mem_cons.1 hp with rfl | hp
  ·simp
  ·have : p.1 ≠ q.1 := fun h => hn.1 (h ▸ List.mem_map.2 ⟨p, hp, rfl⟩)
   rw [show (p.1 == q.1) = false by simpa using this]
   exact ih hn.2 hp
namespace StX
variable {s : Pg} {D : Dsk} {n secs : Nat} {note : Bys} {V : List Bys} {C : PR} {B : Nat}
theorem len (h : StX s D n secs note V C B) : V.length = n := by obtain ⟨TS, h1⟩ := h.st; exact h1.siz.Vl
theorem Cok (h : StX s D n secs note V C B) : C.Ok n := fun p hp => by
 obtain ⟨TS, h1⟩ := h.st
 have := qg4 h.hCn hp
 rw [h.eC] at this
 exact h1.Cok _ (zcm this)
theorem many (h : StX s D n secs note V C B) : C.length = s.C.length := by
 obtain ⟨TS, h1⟩ := h.st
 exact qfe h.eC h.hCn h1.Cn
theorem le (h : StX s D n secs note V C B) : C.length ≤ n := qf9 h.Cok h.hCn
theorem view (h : StX s D n secs note V C B) (i : Nat) : zfr V C i = zfr V s.C i := by unfold zfr; rw [h.eC]
theorem pageB (h : StX s D n secs note V C B) {i : Nat} (hi : i < n) : pageB s D i = zfr V C i := by
 obtain ⟨TS, h1⟩ := h.st
 rw [h1.view hi, h.view]
theorem page (h : StX s D n secs note V C B) {i : Nat} (hi : i < n) : StX (zc4 s D i) D n secs note V C B := by
 obtain ⟨TS, h1⟩ := h.st
 exact ⟨⟨TS, h1.page hi⟩, by rw [zpc]; exact h.eC, h.hCn, h.keep, h.p0, by rw [zpc]; exact h.c0⟩
theorem bm (h : StX s D n secs note V C B) : ∃ S, qeb n (zfr V C 0) S := by
 rw [h.view]
 unfold zfr
 cases hc : s.C.lookup 0 with
 | some b => exact h.c0 b hc
 | none => exact h.p0
theorem with_lookup (h : StX s D n secs note V C B) (i : Nat) (b : Bys) (j : Nat) : (qmr V.length C i b).lookup j = if j = i then some b else C.lookup j := by
 unfold qmr
 rw [zc5, zrb]
 split
 ·rfl
 ·split
  ·rfl
  ·rename_i h1 h2
   cases hc : C.lookup j with
   | none => rfl
   | some x =>
    have := (h.Cok _ (zcm hc)).1
    rw [h.len] at h2
    exact absurd this h2
theorem ins (h : StX s D n secs note V C B) {i : Nat} {b : Bys} (hi : i < n) (hb : b.length = 512) (h0 : i = 0 → ∃ S, qeb n b S) : StX { s with C := zep s.C i b } D n secs note V (qmr V.length C i b) B := by
 obtain ⟨TS, h1⟩ := h.st
 refine ⟨⟨TS, h1.ins hi hb⟩, fun j => ?_, zl1 (zoc _ _), h.keep, h.p0, fun x hx => ?_⟩
 ·rw [h.with_lookup]
  show _ = (zep s.C i b).lookup j
  rw [zc5, h.eC]
 ·have hx : (zep s.C i b).lookup 0 = some x := hx
  rw [zc5] at hx
  split at hx
  ·rename_i h2
   cases hx
   exact h0 h2.symm
  ·exact h.c0 x hx
theorem over (h : StX s D n secs note V C B) : zg9 V C = zg9 V s.C := qgo h.eC
theorem over0 (h : StX s D n secs note V C B) (h0 : 0 < n) : ∃ S, qeb n ((zg9 V C).getD 0 []) S := by
 rw [qcy (by rw [h.len]; exact h0)]
 exact h.bm
theorem more (h : StX s D n secs note V C B) {B' : Nat} (hB : B ≤ B') : StX s D n secs note V C B' := by
 obtain ⟨TS, h1⟩ := h.st
 exact ⟨⟨TS, h1.more hB⟩, h.eC, h.hCn, h.keep, h.p0, h.c0⟩
theorem siz (h : StX s D n secs note V C B) : Siz D n secs note V := by obtain ⟨TS, h1⟩ := h.st; exact h1.siz
theorem rest (h : StX s D n secs note V C B) : D.Rest := by obtain ⟨TS, h1⟩ := h.st; exact h1.rest
theorem vlen (h : StX s D n secs note V C B) {i : Nat} (hi : i < n) : (zfr V C i).length = 512 := by
 unfold zfr
 cases hc : C.lookup i with
 | some b => exact (h.Cok _ (zcm hc)).2
 | none =>
  show (V.getD i []).length = 512
  have hl := h.len
  rw [List.getD_eq_getElem?_getD, List.getElem?_eq_getElem (by omega)]
  exact h.siz.Vs _ (List.getElem_mem _)
theorem ok (h : StX s D n secs note V C B) : s.Ok D := by obtain ⟨TS, h1⟩ := h.st; exact h1.ok
theorem dead (h : StX s D n secs note V C B) : s.dead = false := by obtain ⟨TS, h1⟩ := h.st; exact h1.dead
theorem hn (h : StX s D n secs note V C B) : s.n = n := by obtain ⟨TS, h1⟩ := h.st; exact h1.hn
theorem wait (h : StX s D n secs note V C B) : D.wait.length ≤ 10000 := by rw [h.rest.wait]; decide
theorem need (h : StX s D n secs note V C B) (h0 : s.C ≠ []) : zbb (tC s).length = (514 * C.length + 496) / 497 := by
 obtain ⟨TS, h1⟩ := h.st
 rw [qqk h1.Cok h0, h.many]
theorem qgb (h : StX s D n secs note V C B) (hB : B + 700 < 9223372036854775808) (hC0 : s.C ≠ []) (hneed : (514 * C.length + 496) / 497 ≤ secs) :
  ((cmF s D).1 = 0 ∧ zkz D (cmF s D).2.1 ∧ ∀ x, qi5 (cmF s D).2.2 x → StX (cmR s D x) (cmF s D).2.1 n secs note (zg9 V C) [] (B + 601)) ∨
  ((cmF s D).1 = 4 ∧ D.left ≠ none ∧ (Off (cmF s D).2.1 n secs note V (B + 601) ∨ Off (cmF s D).2.1 n secs note (zg9 V C) (B + 601))) := by
 have hn0 : 0 < n := by have := h.siz.n1; omega
 rcases qkt h.st hB hC0 (by rw [h.need hC0]; exact hneed) with ⟨e, hl, hx⟩ | ⟨e, hd⟩
 ·left
  refine ⟨e, hl, fun x hk => ?_⟩
  have := hx x hk
  have hcm : (cmR s D x).C = [] := by unfold cmR; rw [if_pos e]
  refine ⟨by rw [h.over]; exact this, fun i => by rw [hcm], List.nodup_nil, by rw [hl.keep]; exact h.keep, h.over0 hn0, fun b hb => by rw [hcm] at hb; cases hb⟩
 ·right
  rw [← h.over] at hd
  refine ⟨e, ?_, ?_⟩
  ·rcases hd with hd | hd
   ·exact hd.1.left
   ·exact hd.1.left
  ·exact hd.imp (fun h => h.off) (fun h => h.off)
end StX
end Go.Proofs.YtkkfifhaobjicaaGreatDoor
namespace Go.Proofs.YtkkfifhaobjicaaGreatDoor
open Go.RowKit Go.Eng Go.Eng.Bm Go.Eng.Tr
set_option maxRecDepth 100000
structure Tc where
 d : Dk
 t : Nat
 pb : Nat
 sh : Sh
 N : Nat
 secs : Nat
 note : Bys
 V : List Bys
 B : Nat
structure Tok (c : Tc) (g : Sg) (s : Pg) : Prop where
 st : StX s c.d.D c.N c.secs c.note c.V s.C c.B
 b : s.b = c.pb
 W : ∀ i, 1 ≤ i → i < c.N → zfr c.V s.C i = g.W i
 S : qeb c.N (zfr c.V s.C 0) g.S
 sh : ShB c.sh
 N1 : 1 ≤ c.N
 N2 : c.N ≤ 1024
theorem StX.self' {s : Pg} {D : Dsk} {n secs : Nat} {note : Bys} {V : List Bys} {C : PR} {B : Nat} (h : StX s D n secs note V C B) : StX s D n secs note V s.C B := by
 obtain ⟨TS, h1⟩ := h.st
 exact ⟨h.st, fun _ => rfl, h1.Cn, h.keep, h.p0, h.c0⟩
namespace Tok
variable {c : Tc} {g : Sg} {s : Pg}
theorem wait (h : Tok c g s) : c.d.D.wait.length ≤ 1000000000 := by have := h.st.wait; omega
theorem lives (h : Tok c g s) : c.d.D.dead = false := h.st.rest.live
theorem ok (h : Tok c g s) : c.d.D.Ok := h.st.siz.ok
theorem pg (h : Tok c g s) {i : Nat} (h1 : 1 ≤ i) (hi : i < c.N) : pageB s c.d.D i = g.W i := by rw [h.st.pageB hi]; exact h.W i h1 hi
theorem len (h : Tok c g s) {i : Nat} (h1 : 1 ≤ i) (hi : i < c.N) : (g.W i).length = 512 := by rw [← h.W i h1 hi]; exact h.st.vlen hi
theorem page (h : Tok c g s) {i : Nat} (hi : i < c.N) : Tok c g (zc4 s c.d.D i) :=
 ⟨(h.st.page hi).self', by rw [ql8]; exact h.b, by rw [zpc]; exact h.W, by rw [zpc]; exact h.S, h.sh, h.N1, h.N2⟩
theorem save (h : Tok c g s) {i : Nat} {b : Bys} (h1 : 1 ≤ i) (hi : i < c.N) (hb : b.length = 512) : Tok c { g with W := wr g.W i b } { s with C := zep s.C i b } := by
 refine ⟨(h.st.ins hi hb (fun e => by omega)).self', h.b, fun j h3 h4 => ?_, ?_, h.sh, h.N1, h.N2⟩
 ·show zfr c.V (zep s.C i b) j = wr g.W i b j
  rw [znv]
  unfold wr
  split
  ·rfl
  ·exact h.W j h3 h4
 ·show qeb c.N (zfr c.V (zep s.C i b) 0) g.S
  rw [znv, if_neg (by omega)]
  exact h.S
theorem used (h : Tok c g s) {S : Nat → Bool} (hc : zqk c.N S) (h0 : S 0 = true) : Tok c { g with S := S } { zc4 s c.d.D 0 with C := zep (zc4 s c.d.D 0).C 0 (bmB c.N S) } := by
 have h' := h.page (i := 0) (by have := h.N1; omega)
 refine ⟨(h'.st.ins (by have := h.N1; omega) (zo2 _ _) (fun _ => ⟨S, rfl, hc, h0⟩)).self', h'.b, fun j h3 h4 => ?_, ?_, h.sh, h.N1, h.N2⟩
 ·show zfr c.V (zep (zc4 s c.d.D 0).C 0 (bmB c.N S)) j = g.W j
  rw [znv, if_neg (by omega), zpc]
  exact h.W j h3 h4
 ·show qeb c.N (zfr c.V (zep (zc4 s c.d.D 0).C 0 (bmB c.N S)) 0) S
  rw [znv, if_pos rfl]
  exact ⟨rfl, hc, h0⟩
theorem hS (h : Tok c g s) : pageB s c.d.D 0 = bmB s.n g.S := by rw [h.st.pageB (by have := h.N1; omega), h.st.hn]; exact h.S.1
theorem drop (h : Tok c g s) {i : Nat} {g' : Sg} (hd : zfy c.N g i = .ok g') : Tok c g' (qb4 s c.d.D g.S i false) ∧ i < s.n ∧ ¬ (i = 0 ∨ g.S i = false) := by
 unfold zfy at hd
 split at hd
 ·rename_i hc
  cases hd
  refine ⟨?_, by rw [h.st.hn]; exact hc.2.1, fun e => ?_⟩
  ·have := h.used (S := us g.S i false) (zvt h.S.2.1 hc.2.1) (by unfold us; rw [if_neg (by omega)]; exact h.S.2.2)
   unfold qb4
   rw [h.st.hn]
   exact this
  ·rcases e with e | e
   ·omega
   ·rw [hc.2.2] at e; cases e
 ·cases hd
theorem alloc (h : Tok c g s) {q : Nat} {g' : Sg} (hp : zic c.N g = .ok (q, g')) : Tok c g' (zq9 s c.d.D g.S q) ∧ q < s.n ∧ g.S q = false ∧ (∀ j, j < q → g.S j = true) ∧ 1 ≤ q := by
 unfold zic at hp
 split at hp
 ·rename_i hc
  cases hp
  obtain ⟨f1, f2, f3⟩ := zks hc
  have hq : 1 ≤ nw c.N g.S := by
   rcases Nat.eq_zero_or_pos (nw c.N g.S) with e | e
   ·rw [e, h.S.2.2] at f1; cases f1
   ·exact e
  refine ⟨?_, by rw [h.st.hn]; exact f2, f1, f3, hq⟩
  have h2 := (h.used (S := us g.S (nw c.N g.S) true) (zvt h.S.2.1 f2) (by unfold us; split; rfl; exact h.S.2.2)).save hq f2 (b := zdr) (by simp [zdr])
  unfold zq9
  rw [h.st.hn]
  exact h2
 ·cases hp
end Tok
end Go.Proofs.YtkkfifhaobjicaaGreatDoor
namespace Go.Eng
open Go.RowKit
variable {P : Program} {Q : Exit → Act → World → Prop} {l : zat} {H : World → Prop} {ops : Array Oper} {rest : List Oper} {w0 : World} {F : Nat → Prop} {m : List Item}
theorem zlt {n : Nat} {ds : List Deferred} {f : FuncId} {xs : List Operand} {vs : List Value} {tys : Array TypeId} {ty : TypeId} {pos : String} {after : Array Edge} (hk : zem l (.defer ⟨.value (.func f), xs.toArray, tys⟩) = true) (hx : evs l xs = some vs)
  (k : HL P ops Q ⟨n, { target := .fn (.func f) #[], args := vs.toArray } :: ds, none⟩ rest l H) : HL P ops Q ⟨n, ds, none⟩ (⟨none, .defer ⟨.value (.func f), xs.toArray, tys⟩, ty, pos, after, none⟩ :: rest) l H := by
 unfold HL at *
 refine fun a w s hw => wpListIn_plain rfl fun K hK => ⟨fun _ _ => trivial, ?_⟩
 have hrun : (execOp a.eval ⟨none, .defer ⟨.value (.func f), xs.toArray, tys⟩, ty, pos, after, none⟩).run P w = .ok (.defer { target := .fn (.func f) #[], args := vs.toArray }) w := by
  rw [s.exec _ (fun _ _ h => by cases h) hk]
  simp only [execOp, resolve, Deferred.ofValue, ev, List.map_toArray, zhz hx]
  simp
 show Oper.uponIn _ _ _ _ _ _ _ ((Oper.semAt none a.eval _).run P w)
 rw [Oper.semAt_none, hrun, Oper.uponIn_defer]
 exact hK _ _ (k _ _ ⟨s.size, by show _ :: a.defers = _; rw [s.defers], s.slot⟩ hw)
theorem qc9 {f : FuncId} {fn : Func} {c : Code} {vs : List Value} {w₀ : World} {R : Ending → World → Prop} (hf : P.funcs[f]? = some fn) (hb : fn.body = some c) (hn : Nat.ble vs.length fn.ntmps = true) (H : World → Prop) (hH : H w₀)
  (h : HT P c (bodyPostD P fn R) ⟨fn.ntmps, [], none⟩ (zaa 0 vs) H) : Calls P f vs.toArray w₀ R := by
 unfold HT at h
 exact calls_of_wp_defers hf hb (WP.wp (h _ _ (qfm hn) hH))
theorem zg0 {n : Nat} {fn : Func} {R : Ending → World → Prop} {f : FuncId} {vs : List Value} (hb : zb9 P f = true) (hd : ∀ w, Hp w0 F m w → CallsD P f vs.toArray .returning w fun e u' w' => u' = .returning ∧ (∃ v, e = .returned v) ∧ Fr none' w w')
  (h : HX (bodyPost P fn R) .ret ⟨n, [], none⟩ l (Hp w0 F m)) : HX (bodyPostD P fn R) .ret ⟨n, [{ target := .fn (.func f) #[], args := vs.toArray }], none⟩ l (Hp w0 F m) := by
 unfold HX at *
 intro a w s hw
 show Leaves P fn a.tmps R a.defers .returning w
 rw [s.defers]
 refine leaves_cons (f := f) (args := vs.toArray) (by simp) (by simp [invoke, zdo hb]) (CallsD.mono (hd w hw) ?_)
 rintro e u' w' ⟨rfl, ⟨v, rfl⟩, hf⟩
 have hq := (h { a with defers := [] } w' ⟨s.size, rfl, s.slot⟩ (hw.keep hf)).2
 exact hq
def qrb (v : Value) : List PanicEntry := [{ v, recovered := false }]
def qo7 : Except Value Value → Ending
 | .ok v => .returned v
 | .error v => .panicked (qrb v)
def qou (w : World) (Fc : Nat → Prop) {α : Type} (out : α → Except Value Value) (φ : α → Prop) (its : α → List Item) : Ending → World → Prop := fun e w' => ∃ x, e = qo7 (out x) ∧ φ x ∧ Its Fc w (its x) w'
def Ce (P : Program) (f : FuncId) (args : Array Value) (w : World) (Fc : Nat → Prop) {α : Type} (out : α → Except Value Value) (φ : α → Prop) (its : α → List Item) : Prop := Calls P f args w (qou w Fc out φ its)
section
variable {P : Program} {Q : Exit → Act → World → Prop} {N : Fm} {l : zat} {H : World → Prop} {ops : Array Oper} {rest : List Oper} {w0 : World} {F : Nat → Prop} {m : List Item} {fn : Func}
theorem Ce.calls {f : FuncId} {args : Array Value} {w : World} {Fc : Nat → Prop} {α : Type} {out : α → Except Value Value} {φ : α → Prop} {its : α → List Item} (h : Ce P f args w Fc out φ its) : Calls P f args w fun e w' => ∃ x, e = qo7 (out x) ∧ φ x ∧ Its Fc w (its x) w' := h
theorem zz3 {f : FuncId} {c : Code} (vs : List Value) (pre : List Item) {α : Type} {val : α → Value} {φ : α → Prop} {its : α → List Item} (hf : P.funcs[f]? = some fn) (hb : fn.body = some c) (hn : Nat.ble vs.length fn.ntmps = true)
  (hp : ∀ it ∈ pre, za2 it w0) (ha : pre.Pairwise Item.Apart)
  (h : HT P c (bodyPostD P fn (zkv w0 (zap pre) val φ its)) ⟨fn.ntmps, [], none⟩ (zaa 0 vs) (Hp w0 (zap pre) pre)) : Ct P f vs.toArray w0 (zap pre) val φ its := by
 unfold Ct; exact qc9 hf hb hn (Hp w0 (zap pre) pre) (.begin hp ha _ fun _ h => h) h
/-! ### a call -/
/-! ### what passes a panic on -/
/-! ### the end -/
attribute [irreducible] Ce
end
end Go.Eng
