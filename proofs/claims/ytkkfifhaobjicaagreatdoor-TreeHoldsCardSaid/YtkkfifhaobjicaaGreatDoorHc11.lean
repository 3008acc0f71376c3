/- The document's pages (armariumref08): Alloc, Commit, New. -/
/- The plain law of the store: a store, and the document's. -/
/- tree: what a tree's pages are in a store. Own work; no condition. -/
/- Deferred calls: one is laid by, and made at the end. Own work; no condition. -/
/- Panics: raised by an operation, or by a callee; what passes them on; the end. Own work; no condition. -/
/- Own rows turned in place: opened, appended onto themselves, cleared, copied. Own work over the guide's laws; no condition. -/
/- tree: what it stands on in memory; must, ask, there, load, save, page, drop. Own work; no condition. -/
/- slices.Insert at strings and ints: rows that are owned. Printed by wip/bench/sli.py. Own work; no condition. -/
import Derived.Test.YtkkfifhaobjicaaGreatDoorHc10
import Derived.Test.YtkkfifhaobjicaaGreatDoorHc03
import Derived.Test.YtkkfifhaobjicaaGreatDoorHc07
import Derived.Test.YtkkfifhaobjicaaGreatDoorHc05
import Derived.Recover
import Derived.Test.YtkkfifhaobjicaaGreatDoorHc09
import Derived.Lib.SliceRun
import Derived.Lib.Overlaps
import Derived.Lib.AppendZerosOnto
import Derived.Test.YtkkfifhaobjicaaGreatDoorHc02
namespace Go.Proofs.YtkkfifhaobjicaaGreatDoor
open Go.RowKit Go.Eng Go.Eng.Bm
set_option maxRecDepth 100000
set_option maxHeartbeats 40000000
theorem zwv (V : List Bys) : (zf7 V).length = V.length := aG _
theorem qhf (V : List Bys) (i : Nat) (s : Bys) : (zf7 V).set i (qlb s) = zf7 (V.set i s) := by
 unfold zf7
 rw [gX]; rfl
theorem qjm (n : Nat) (h : 0 < n) : Value.string (⟨#[1]⟩ ++ (⟨zdr.toArray⟩ : ByteArray).extract 1 (⟨zdr.toArray⟩ : ByteArray).size) = qlb (bm0 n) := by
 rw [qoo n h]
 refine congrArg Value.string (qef ?_)
 rw [ByteArray.data_append, gC, zve]
 show [1] ++ zdr.drop 1 = 1 :: List.replicate 511 0
 unfold zdr
 rw [List.drop_replicate]
 rfl
theorem qhz : (⟨zdr.toArray⟩ : ByteArray).size = 512 := by show zdr.toArray.size = 512; rw [bR, zdr, bV]
theorem qdg (n : Nat) (h0 : 0 < n) (hn : n ≤ 1000) (w : World) :
  Ct Tryz.prog 52 #[.int .i64 (n : Int)] w none' (fun y : Nat × Nat × Nat => wV y.1 y.2.1 (V0 n) y.2.2) (fun _ => True) (fun y => [rsI y.1 (V0 n), mC y.2.2 []]) := by
 refine zfv [_] Tryz.func52 rfl rfl ?_
 have hrz := zzb
 have hone := qjm n h0
 have hz1 : (@OfNat.ofNat Nat 1 _) ≤ (⟨zdr.toArray⟩ : ByteArray).size := by rw [qhz]; exact bN rfl
 have hz2 : (⟨#[1]⟩ : ByteArray).size + ((⟨zdr.toArray⟩ : ByteArray).extract 1 (⟨zdr.toArray⟩ : ByteArray).size).size < 9223372036854775808 := by
  rw [ByteArray.size_extract, qhz]; show 1 + (min 512 512 - 1) < _; omega
 have hVn := qkm n
 have hV0 : (zf7 (List.replicate n zdr)).set 0 (qlb (bm0 n)) = zf7 (V0 n) := by
  rw [qhf]
  congr 1
  apply List.ext_getElem?
  intro j
  rw [List.getElem?_set]
  by_cases hj : j < n
  ·rw [qh8 hj, gD, if_pos hj]
   by_cases hj0 : 0 = j
   ·subst hj0
    rw [if_pos rfl, if_pos (by rw [bV]; exact h0), if_pos rfl]
   ·rw [if_neg hj0, if_neg (fun h => hj0 h.symm)]
  ·rw [if_neg oQ, cR (by rw [bV]; omega), cR oQ]
 generalize bm0 n = t at hV0 hone
 generalize V0 n = V at hV0 hVn ⊢
 generalize zdr = z at hrz hone hz1 hz2 hV0
 simp only [zaa]
 refine goA ?_
 refine zal rfl rfl fun b2 hb2 => ?_
 refine goA ?_
 refine zaz rfl (zgi (q := .i64) rfl) fun ⟨mb, hmb⟩ => ?_
 refine goA ?_
 refine zal rfl rfl fun b3 hb3 => ?_
 refine goA ?_
 refine zaz rfl (zag (cs' := #[.slice none 0 0, .map (some mb)]) rfl rfl rfl rfl rfl rfl) fun _ => ?_
 refine goA ?_
 refine zso 9 1 ?_
 refine zcp (α := Nat × Option (Nat × Nat)) (fun y => [(0, .int .i64 (n : Int)), (2, .pointer (some ⟨b2, 0, none⟩)), (3, .pointer (some ⟨b3, 0, none⟩)), (4, .int .i64 y.1)]) (fun y => y.1 ≤ n)
  (fun y => [own 9 1 y.2 y.1 (zf7 (List.replicate y.1 z)), pt b3 (.cells #[slV y.2 y.1, .map (some mb)] 66 (0, 0)), mC mb [], pt b2 (.cells #[.slice none 0 0, .map none] 66 (0, 0))]) (fun y => n - y.1) (0, none) ⟨rfl, rfl, rfl, rfl, trivial⟩ (aV _) (fun w' hw' => hw') fun ⟨i, o⟩ hi => ?_
 simp only at hi ⊢
 by_cases hi2 : i < n
 ·have hup : zf7 (List.replicate (i + 1) z) = zf7 (List.replicate i z) ++ [qlb z] := by rw [List.replicate_succ', zf7, cD]; rfl
  refine goA ?_
  refine zao [1, 2, 3] 6 rfl rfl kQ ?_
  (repeat first | refine dAv [2] rfl rfl rfl ?_ | refine dno [2] rfl rfl rfl ?_ | refine dT [2] rfl rfl rfl rfl ?_ | refine dF [2] rfl rfl rfl rfl ?_)
  refine zaw 2 ⟨kQ, dQ⟩ rfl rfl (zfb rfl kQ rfl (fun w1 hw1 => hrz w1)) (fun _ _ h => goH h) fun _ => ?_
  refine goE ?_
  refine zaw 3 ⟨kQ, dQ⟩ rfl rfl (zba (L := [(0, 1, qlb z)]) rfl rfl rfl rfl rfl rfl) (fun _ _ h => goH h) fun ⟨bq, hbq⟩ => ?_
  refine goE ?_
  refine zaw 4 ⟨kQ, dQ⟩ rfl rfl (zai (zce _ _ _) (zdh (news := [qlb z]) rfl rfl rfl rfl rfl rfl rfl rfl oQ (fun w' hw' j v hj => by rw [zc9, aF]; exact zbm (hw'.item _ (.tail _ (.head _))).1 j v hj))) (fun _ _ h => goH h) fun o' => ?_
  refine goE ?_
  refine zdm ⟨kQ, kQ⟩ rfl rfl (zai (zda _ _ _ _) (zah rfl rfl rfl rfl (zsm _ _) (qa9 _ _) (show (0 : Nat) < 2 from dQ))) fun _ => ?_
  rw [← hup]
  refine goA ?_
  exact zav (i + 1, o') ⟨rfl, rfl, rfl, rfl, trivial⟩ hi2 (fun w' hw' => hw'.pick [1, 0, 3, 4] rfl rfl) (by simp only; omega)
 ·obtain rfl : i = n := oQ
  refine goA ?_
  refine qrq h0 fun bl cl cur ho hcl hcs hcu => ?_
  subst ho
  have hcur : cur = (zf7 (List.replicate i z) ++ cur.toList.drop i).toArray := by
   rw [← hcu, bK, bE]
  generalize cur.toList.drop i = T at hcur
  rw [hcur]
  simp only [slV]
  refine zao [0, 1, 2, 3] 6 rfl rfl kQ ?_
  (repeat first | refine dAv [2] rfl rfl rfl ?_ | refine dno [2] rfl rfl rfl ?_ | refine dT [2] rfl rfl rfl rfl ?_ | refine dF [2] rfl rfl rfl rfl ?_)
  refine zaw 2 ⟨kQ, dQ⟩ rfl rfl (zfb rfl kQ rfl (fun w1 hw1 => hrz w1)) (fun _ _ h => goH h) fun _ => ?_
  refine goE ?_
  rw [hone]
  refine goE ?_
  refine zdm ⟨kQ, kQ⟩ rfl rfl (zah rfl rfl rfl rfl rfl rfl (show 0 + 0 < (zf7 (List.replicate i z) ++ T).toArray.size from by rw [bR, aA, zwv, bV]; omega)) fun _ => ?_
  rw [aF, fR, List.set_append_left _ _ (by rw [zwv, bV]; exact h0), hV0]
  refine goA ?_
  refine zaz rfl (zai (zdl _ _ _ _ _) (zag (cs' := #[.slice (some ⟨bl, 0, none⟩) i cl, .map (some mb)]) rfl rfl rfl rfl rfl rfl)) fun _ => ?_
  refine goA ?_
  refine zb3 (m' := [rsI bl V, mC mb [], pt b2 (.cells #[.slice (some ⟨bl, 0, none⟩) i cl, .map (some mb)] 66 (0, 0))]) (fun w' hw' => qro (hw'.pick [1, 3, 0] rfl rfl)) ?_
  rw [show (Value.slice (some ⟨bl, 0, none⟩) i cl) = .slice (some ⟨bl, 0, none⟩) V.length cl by rw [hVn]]
  exact zbs (bl, cl, mb) rfl ⟨_, rfl, zar rfl (.tail _ (.tail _ (.head _)))⟩ rfl trivial (.cons_cons _ (.cons_cons _ (aD _))) (by intro it hm; rcases hm with _ | ⟨_, _ | ⟨_, hm⟩⟩; exact zju _ _; exact za6 _ _ _ _; cases hm)
end Go.Proofs.YtkkfifhaobjicaaGreatDoor
namespace Go.Proofs.YtkkfifhaobjicaaGreatDoor
open Go.Eng.Bm
open Go.Eng
set_option maxRecDepth 100000
structure StX (s : Pg) (D : Dsk) (n secs : Nat) (note : Bys) (V : List Bys) (C : PR) (B : Nat) : Prop where
 st : StV s D n secs note V B
 eC : ∀ i, C.lookup i = s.C.lookup i
 hCn : (C.map (·.1)).Nodup
 keep : D.keep.length ≤ 1000000
 p0 : ∃ S, qd3 n (V.getD 0 []) S
 c0 : ∀ b, s.C.lookup 0 = some b → ∃ S, qd3 n b S
theorem qjg {A : PR} (hn : (A.map (·.1)).Nodup) {p : Nat × Bys} (hp : p ∈ A) : A.lookup p.1 = some p.2 := by
 induction A with
 | nil => cases hp
 | cons q A ih =>
  rw [bD, cS] at hn
  rw [cF]
  rcases aJ.1 hp with rfl | hp
  ·simp
  ·have : p.1 ≠ q.1 := fun h => hn.1 (h ▸ aT.2 ⟨p, hp, rfl⟩)
   rw [show (p.1 == q.1) = false by simpa using this]
   exact ih hn.2 hp
namespace StX
variable {s : Pg} {D : Dsk} {n secs : Nat} {note : Bys} {V : List Bys} {C : PR} {B : Nat}
theorem len (h : StX s D n secs note V C B) : V.length = n := by obtain ⟨TS, h1⟩ := h.st; exact h1.siz.Vl
theorem Cok (h : StX s D n secs note V C B) : C.Ok n := fun p hp => by
 obtain ⟨TS, h1⟩ := h.st
 have := qjg h.hCn hp
 rw [h.eC] at this
 exact h1.Cok _ (zcj this)
theorem many (h : StX s D n secs note V C B) : C.length = s.C.length := by
 obtain ⟨TS, h1⟩ := h.st
 exact qg3 h.eC h.hCn h1.Cn
theorem le (h : StX s D n secs note V C B) : C.length ≤ n := qfr h.Cok h.hCn
theorem view (h : StX s D n secs note V C B) (i : Nat) : zf0 V C i = zf0 V s.C i := by unfold zf0; rw [h.eC]
theorem pageB (h : StX s D n secs note V C B) {i : Nat} (hi : i < n) : pageB s D i = zf0 V C i := by
 obtain ⟨TS, h1⟩ := h.st
 rw [h1.view hi, h.view]
theorem page (h : StX s D n secs note V C B) {i : Nat} (hi : i < n) : StX (zcn s D i) D n secs note V C B := by
 obtain ⟨TS, h1⟩ := h.st
 exact ⟨⟨TS, h1.page hi⟩, by rw [zpo]; exact h.eC, h.hCn, h.keep, h.p0, by rw [zpo]; exact h.c0⟩
theorem bm (h : StX s D n secs note V C B) : ∃ S, qd3 n (zf0 V C 0) S := by
 rw [h.view]
 unfold zf0
 cases hc : s.C.lookup 0 with
 | some b => exact h.c0 b hc
 | none => exact h.p0
theorem with_lookup (h : StX s D n secs note V C B) (i : Nat) (b : Bys) (j : Nat) : (qnz V.length C i b).lookup j = if j = i then some b else C.lookup j := by
 unfold qnz
 rw [zc7, zrl]
 split
 ·rfl
 ·split
  ·rfl
  ·rename_i h1 h2
   cases hc : C.lookup j with
   | none => rfl
   | some x =>
    have := (h.Cok _ (zcj hc)).1
    rw [h.len] at h2
    exact absurd this h2
theorem ins (h : StX s D n secs note V C B) {i : Nat} {b : Bys} (hi : i < n) (hb : b.length = 512) (h0 : i = 0 → ∃ S, qd3 n b S) : StX { s with C := zeu s.C i b } D n secs note V (qnz V.length C i b) B := by
 obtain ⟨TS, h1⟩ := h.st
 refine ⟨⟨TS, h1.ins hi hb⟩, fun j => ?_, zmg (zov _ _), h.keep, h.p0, fun x hx => ?_⟩
 ·rw [h.with_lookup]
  show _ = (zeu s.C i b).lookup j
  rw [zc7, h.eC]
 ·have hx : (zeu s.C i b).lookup 0 = some x := hx
  rw [zc7] at hx
  split at hx
  ·rename_i h2
   cases hx
   exact h0 h2.symm
  ·exact h.c0 x hx
theorem over (h : StX s D n secs note V C B) : zhj V C = zhj V s.C := qgh h.eC
theorem over0 (h : StX s D n secs note V C B) (h0 : 0 < n) : ∃ S, qd3 n ((zhj V C).getD 0 []) S := by
 rw [qgj (by rw [h.len]; exact h0)]
 exact h.bm
theorem more (h : StX s D n secs note V C B) {B' : Nat} (hB : B ≤ B') : StX s D n secs note V C B' := by
 obtain ⟨TS, h1⟩ := h.st
 exact ⟨⟨TS, h1.more hB⟩, h.eC, h.hCn, h.keep, h.p0, h.c0⟩
theorem siz (h : StX s D n secs note V C B) : Siz D n secs note V := by obtain ⟨TS, h1⟩ := h.st; exact h1.siz
theorem rest (h : StX s D n secs note V C B) : D.Rest := by obtain ⟨TS, h1⟩ := h.st; exact h1.rest
theorem vlen (h : StX s D n secs note V C B) {i : Nat} (hi : i < n) : (zf0 V C i).length = 512 := by
 unfold zf0
 cases hc : C.lookup i with
 | some b => exact (h.Cok _ (zcj hc)).2
 | none =>
  show (V.getD i []).length = 512
  have hl := h.len
  rw [aC, aB oQ]
  exact h.siz.Vs _ (aR _)
theorem ok (h : StX s D n secs note V C B) : s.Ok D := by obtain ⟨TS, h1⟩ := h.st; exact h1.ok
theorem dead (h : StX s D n secs note V C B) : s.dead = false := by obtain ⟨TS, h1⟩ := h.st; exact h1.dead
theorem hn (h : StX s D n secs note V C B) : s.n = n := by obtain ⟨TS, h1⟩ := h.st; exact h1.hn
theorem wait (h : StX s D n secs note V C B) : D.wait.length ≤ 10000 := by rw [h.rest.wait]; decide
theorem need (h : StX s D n secs note V C B) (h0 : s.C ≠ []) : za9 (tC s).length = (514 * C.length + 496) / 497 := by
 obtain ⟨TS, h1⟩ := h.st
 rw [qrg h1.Cok h0, h.many]
theorem qeu (h : StX s D n secs note V C B) (hB : B + 700 < 9223372036854775808) (hC0 : s.C ≠ []) (hneed : (514 * C.length + 496) / 497 ≤ secs) :
  ((cmF s D).1 = 0 ∧ zk0 D (cmF s D).2.1 ∧ ∀ x, qi5 (cmF s D).2.2 x → StX (cmR s D x) (cmF s D).2.1 n secs note (zhj V C) [] (B + 601)) ∨
  ((cmF s D).1 = 4 ∧ D.left ≠ none ∧ (Off (cmF s D).2.1 n secs note V (B + 601) ∨ Off (cmF s D).2.1 n secs note (zhj V C) (B + 601))) := by
 have hn0 : 0 < n := by have := h.siz.n1; omega
 rcases qlz h.st hB hC0 (by rw [h.need hC0]; exact hneed) with ⟨e, hl, hx⟩ | ⟨e, hd⟩
 ·left
  refine ⟨e, hl, fun x hk => ?_⟩
  have := hx x hk
  have hcm : (cmR s D x).C = [] := by unfold cmR; rw [if_pos e]
  refine ⟨by rw [h.over]; exact this, fun i => by rw [hcm], fI, by rw [hl.keep]; exact h.keep, h.over0 hn0, fun b hb => by rw [hcm] at hb; cases hb⟩
 ·right
  rw [← h.over] at hd
  refine ⟨e, ?_, ?_⟩
  ·rcases hd with hd | hd
   ·exact hd.1.left
   ·exact hd.1.left
  ·exact hd.imp (fun h => h.off) (fun h => h.off)
end StX
end Go.Proofs.YtkkfifhaobjicaaGreatDoor
namespace Go.Proofs.YtkkfifhaobjicaaGreatDoor
open Go.RowKit Go.Eng Go.Eng.Bm Go.Eng.Tr
set_option maxRecDepth 100000
structure Tc where
 d : Dk
 t : Nat
 pb : Nat
 sh : Sh
 N : Nat
 secs : Nat
 note : Bys
 V : List Bys
 B : Nat
structure Tok (c : Tc) (g : Sg) (s : Pg) : Prop where
 st : StX s c.d.D c.N c.secs c.note c.V s.C c.B
 b : s.b = c.pb
 W : ∀ i, 1 ≤ i → i < c.N → zf0 c.V s.C i = g.W i
 S : qd3 c.N (zf0 c.V s.C 0) g.S
 sh : ShB c.sh
 N1 : 1 ≤ c.N
 N2 : c.N ≤ 1024
theorem StX.self' {s : Pg} {D : Dsk} {n secs : Nat} {note : Bys} {V : List Bys} {C : PR} {B : Nat} (h : StX s D n secs note V C B) : StX s D n secs note V s.C B := by
 obtain ⟨TS, h1⟩ := h.st
 exact ⟨h.st, fun _ => rfl, h1.Cn, h.keep, h.p0, h.c0⟩
namespace Tok
variable {c : Tc} {g : Sg} {s : Pg}
theorem wait (h : Tok c g s) : c.d.D.wait.length ≤ 1000000000 := by have := h.st.wait; omega
theorem lives (h : Tok c g s) : c.d.D.dead = false := h.st.rest.live
theorem ok (h : Tok c g s) : c.d.D.Ok := h.st.siz.ok
theorem pg (h : Tok c g s) {i : Nat} (h1 : 1 ≤ i) (hi : i < c.N) : pageB s c.d.D i = g.W i := by rw [h.st.pageB hi]; exact h.W i h1 hi
theorem len (h : Tok c g s) {i : Nat} (h1 : 1 ≤ i) (hi : i < c.N) : (g.W i).length = 512 := by rw [← h.W i h1 hi]; exact h.st.vlen hi
theorem page (h : Tok c g s) {i : Nat} (hi : i < c.N) : Tok c g (zcn s c.d.D i) :=
 ⟨(h.st.page hi).self', by rw [qgl]; exact h.b, by rw [zpo]; exact h.W, by rw [zpo]; exact h.S, h.sh, h.N1, h.N2⟩
theorem save (h : Tok c g s) {i : Nat} {b : Bys} (h1 : 1 ≤ i) (hi : i < c.N) (hb : b.length = 512) : Tok c { g with W := wr g.W i b } { s with C := zeu s.C i b } := by
 refine ⟨(h.st.ins hi hb (fun e => oQ)).self', h.b, fun j h3 h4 => ?_, ?_, h.sh, h.N1, h.N2⟩
 ·show zf0 c.V (zeu s.C i b) j = wr g.W i b j
  rw [zoh]
  unfold wr
  split
  ·rfl
  ·exact h.W j h3 h4
 ·show qd3 c.N (zf0 c.V (zeu s.C i b) 0) g.S
  rw [zoh, if_neg oQ]
  exact h.S
theorem used (h : Tok c g s) {S : Nat → Bool} (hc : znw c.N S) (h0 : S 0 = true) : Tok c { g with S := S } { zcn s c.d.D 0 with C := zeu (zcn s c.d.D 0).C 0 (bmB c.N S) } := by
 have h' := h.page (i := 0) (by have := h.N1; omega)
 refine ⟨(h'.st.ins (by have := h.N1; omega) (zoo _ _) (fun _ => ⟨S, rfl, hc, h0⟩)).self', h'.b, fun j h3 h4 => ?_, ?_, h.sh, h.N1, h.N2⟩
 ·show zf0 c.V (zeu (zcn s c.d.D 0).C 0 (bmB c.N S)) j = g.W j
  rw [zoh, if_neg oQ, zpo]
  exact h.W j h3 h4
 ·show qd3 c.N (zf0 c.V (zeu (zcn s c.d.D 0).C 0 (bmB c.N S)) 0) S
  rw [zoh, if_pos rfl]
  exact ⟨rfl, hc, h0⟩
theorem hS (h : Tok c g s) : pageB s c.d.D 0 = bmB s.n g.S := by rw [h.st.pageB (by have := h.N1; omega), h.st.hn]; exact h.S.1
theorem drop (h : Tok c g s) {i : Nat} {g' : Sg} (hd : zf2 c.N g i = .ok g') : Tok c g' (qcd s c.d.D g.S i false) ∧ i < s.n ∧ ¬ (i = 0 ∨ g.S i = false) := by
 unfold zf2 at hd
 split at hd
 ·rename_i hc
  cases hd
  refine ⟨?_, by rw [h.st.hn]; exact hc.2.1, fun e => ?_⟩
  ·have := h.used (S := us g.S i false) (zu7 h.S.2.1 hc.2.1) (by unfold us; rw [if_neg oQ]; exact h.S.2.2)
   unfold qcd
   rw [h.st.hn]
   exact this
  ·rcases e with e | e
   ·omega
   ·rw [hc.2.2] at e; cases e
 ·cases hd
theorem alloc (h : Tok c g s) {q : Nat} {g' : Sg} (hp : ziq c.N g = .ok (q, g')) : Tok c g' (zrg s c.d.D g.S q) ∧ q < s.n ∧ g.S q = false ∧ (∀ j, j < q → g.S j = true) ∧ 1 ≤ q := by
 unfold ziq at hp
 split at hp
 ·rename_i hc
  cases hp
  obtain ⟨f1, f2, f3⟩ := zla hc
  have hq : 1 ≤ nw c.N g.S := by
   rcases eS (nw c.N g.S) with e | e
   ·rw [e, h.S.2.2] at f1; cases f1
   ·exact e
  refine ⟨?_, by rw [h.st.hn]; exact f2, f1, f3, hq⟩
  have h2 := (h.used (S := us g.S (nw c.N g.S) true) (zu7 h.S.2.1 f2) (by unfold us; split; rfl; exact h.S.2.2)).save hq f2 (b := zdr) (by simp [zdr])
  unfold zrg
  rw [h.st.hn]
  exact h2
 ·cases hp
end Tok
end Go.Proofs.YtkkfifhaobjicaaGreatDoor
namespace Go.Eng
open Go.RowKit
variable {P : Program} {Q : Exit → Act → World → Prop} {l : zaq} {H : World → Prop} {ops : Array Oper} {rest : List Oper} {w0 : World} {F : Nat → Prop} {m : List Item}
theorem zml {n : Nat} {ds : List Deferred} {f : FuncId} {xs : List Operand} {vs : List Value} {tys : Array TypeId} {ty : TypeId} {pos : String} {after : Array Edge} (hk : zes l (.defer ⟨.value (.func f), xs.toArray, tys⟩) = true) (hx : evs l xs = some vs)
  (k : HL P ops Q ⟨n, { target := .fn (.func f) #[], args := vs.toArray } :: ds, none⟩ rest l H) : HL P ops Q ⟨n, ds, none⟩ (⟨none, .defer ⟨.value (.func f), xs.toArray, tys⟩, ty, pos, after, none⟩ :: rest) l H := by
 unfold HL at *
 refine fun a w s hw => wpListIn_plain rfl fun K hK => ⟨fun _ _ => trivial, ?_⟩
 have hrun : (execOp a.eval ⟨none, .defer ⟨.value (.func f), xs.toArray, tys⟩, ty, pos, after, none⟩).run P w = .ok (.defer { target := .fn (.func f) #[], args := vs.toArray }) w := by
  rw [s.exec _ (fun _ _ h => by cases h) hk]
  simp only [execOp, resolve, Deferred.ofValue, ev, fF, zhz hx]
  simp
 show Oper.uponIn _ _ _ _ _ _ _ ((Oper.semAt none a.eval _).run P w)
 rw [Oper.semAt_none, hrun, Oper.uponIn_defer]
 exact hK _ _ (k _ _ ⟨s.size, by show _ :: a.defers = _; rw [s.defers], s.slot⟩ hw)
theorem qep {f : FuncId} {fn : Func} {c : Code} {vs : List Value} {w₀ : World} {R : Ending → World → Prop} (hf : P.funcs[f]? = some fn) (hb : fn.body = some c) (hn : Nat.ble vs.length fn.ntmps = true) (H : World → Prop) (hH : H w₀)
  (h : HT P c (bodyPostD P fn R) ⟨fn.ntmps, [], none⟩ (zaa 0 vs) H) : Calls P f vs.toArray w₀ R := by
 unfold HT at h
 exact calls_of_wp_defers hf hb (WP.wp (h _ _ (qhd hn) hH))
theorem zhf {n : Nat} {fn : Func} {R : Ending → World → Prop} {f : FuncId} {vs : List Value} (hb : zbu P f = true) (hd : ∀ w, Hp w0 F m w → CallsD P f vs.toArray .returning w fun e u' w' => u' = .returning ∧ (∃ v, e = .returned v) ∧ Fr none' w w')
  (h : HX (bodyPost P fn R) .ret ⟨n, [], none⟩ l (Hp w0 F m)) : HX (bodyPostD P fn R) .ret ⟨n, [{ target := .fn (.func f) #[], args := vs.toArray }], none⟩ l (Hp w0 F m) := by
 unfold HX at *
 intro a w s hw
 show Leaves P fn a.tmps R a.defers .returning w
 rw [s.defers]
 refine leaves_cons (f := f) (args := vs.toArray) sQ (by simp [invoke, zdp hb]) (CallsD.mono (hd w hw) ?_)
 rintro e u' w' ⟨rfl, ⟨v, rfl⟩, hf⟩
 have hq := (h { a with defers := [] } w' ⟨s.size, rfl, s.slot⟩ (hw.keep hf)).2
 exact hq
def qsm (v : Value) : List PanicEntry := [{ v, recovered := false }]
def qox : Except Value Value → Ending
 | .ok v => .returned v
 | .error v => .panicked (qsm v)
def qos (w : World) (Fc : Nat → Prop) {α : Type} (out : α → Except Value Value) (φ : α → Prop) (its : α → List Item) : Ending → World → Prop := fun e w' => ∃ x, e = qox (out x) ∧ φ x ∧ Its Fc w (its x) w'
def Ce (P : Program) (f : FuncId) (args : Array Value) (w : World) (Fc : Nat → Prop) {α : Type} (out : α → Except Value Value) (φ : α → Prop) (its : α → List Item) : Prop := Calls P f args w (qos w Fc out φ its)
section
variable {P : Program} {Q : Exit → Act → World → Prop} {N : Fm} {l : zaq} {H : World → Prop} {ops : Array Oper} {rest : List Oper} {w0 : World} {F : Nat → Prop} {m : List Item} {fn : Func}
theorem Ce.calls {f : FuncId} {args : Array Value} {w : World} {Fc : Nat → Prop} {α : Type} {out : α → Except Value Value} {φ : α → Prop} {its : α → List Item} (h : Ce P f args w Fc out φ its) : Calls P f args w fun e w' => ∃ x, e = qox (out x) ∧ φ x ∧ Its Fc w (its x) w' := h
theorem zz7 {f : FuncId} {c : Code} (vs : List Value) (pre : List Item) {α : Type} {val : α → Value} {φ : α → Prop} {its : α → List Item} (hf : P.funcs[f]? = some fn) (hb : fn.body = some c) (hn : Nat.ble vs.length fn.ntmps = true)
  (hp : ∀ it ∈ pre, za1 it w0) (ha : pre.Pairwise Item.Apart)
  (h : HT P c (bodyPostD P fn (zk5 w0 (zan pre) val φ its)) ⟨fn.ntmps, [], none⟩ (zaa 0 vs) (Hp w0 (zan pre) pre)) : Ct P f vs.toArray w0 (zan pre) val φ its := by
 unfold Ct; exact qep hf hb hn (Hp w0 (zan pre) pre) (.begin hp ha _ fun _ h => h) h
/-! ### a call -/
/-! ### what passes a panic on -/
/-! ### the end -/
attribute [irreducible] Ce
end
variable {P : Program} {Q : Exit → Act → World → Prop} {N : Fm} {l : zaq} {H : World → Prop} {ops : Array Oper} {rest : List Oper} {w0 : World} {F : Nat → Prop} {m : List Item} {ty : TypeId} {pos : String} {after : Array Edge} {g : Option (Nat × Bool)} {d : Nat}
theorem qsb {α : Type} {φ : α → Prop} {M : α → List Item} (h : ∀ w, Hp w0 F m w → ∃ z, φ z ∧ Hp w0 F (M z) w) (k : ∀ z, φ z → HL P ops Q N rest l (Hp w0 F (M z))) : HL P ops Q N rest l (Hp w0 F m) := by
 unfold HL at *
 intro a w s hw
 obtain ⟨z, hz, h⟩ := h w hw
 exact k z hz a w s h
theorem qqw {c : Code} {α : Type} {φ : α → Prop} {M : α → List Item} (h : ∀ w, Hp w0 F m w → ∃ z, φ z ∧ Hp w0 F (M z) w) (k : ∀ z, φ z → HT P c Q N l (Hp w0 F (M z))) : HT P c Q N l (Hp w0 F m) := by
 unfold HT at *
 intro a w s hw
 obtain ⟨z, hz, h⟩ := h w hw
 exact k z hz a w s h
theorem Hp.cut {w : World} {e : TypeId} {n b c : Nat} {xs : List Value} (hw : Hp w0 F (own e 1 (some (b, c)) n xs :: m) w) : ∃ zs : List Value, zs.length = c - n ∧ Hp w0 F (pt b (.cells (xs ++ zs).toArray e (0, 0)) :: m) w := by
 have h := (hw.item _ (.head _)).1
 obtain ⟨h0, h1, h2, cur, h3, h4, h5⟩ := h
 refine ⟨cur.toList.drop n, by rw [aU, fL, h4, bK], ?_⟩
 have e1 : xs ++ cur.toList.drop n = cur.toList := by
  rw [← h5, bK, bE]
 rw [e1]
 refine hw.imp (fun k hk => ⟨c, by rw [show k = b from hk]⟩) (fun _ => ?_) (zac _ _ _)
 show w.heap[b]? = _
 rw [h3, fX]
theorem Hp.glue {w : World} {e : TypeId} {n b c : Nat} {xs zs : List Value} (hw : Hp w0 F (pt b (.cells (xs ++ zs).toArray e (0, 0)) :: m) w) (hx : xs.length = n) (hz : zs.length = c - n) (hn : n ≤ c) (hc : c ≤ maxLen) : Hp w0 F (own e 1 (some (b, c)) n xs :: m) w := by
 have := hw.ownOf (n := n) (c := c) (sz := 1) hn hc (by simp; omega)
 rw [bK, fK hx] at this
 exact this
theorem qf6 {T T' e : TypeId} {x y : Operand} {b n c k c' sz bt : Nat} {a : Addr} {cur news : List Value} (hok : ze5 N l (.call ⟨.builtin .append, #[x, y], #[T, T]⟩) d = true) (hx : evO l x = some (.slice (some ⟨b, 0, none⟩) n c)) (hy : evO l y = some (.slice (some a) k c'))
  (hT : zks P T = some e) (hi : qch P e = some (1, bt, sz)) (hl : news.length = k) (h1 : zbx news = true) (hroom : n + k ≤ c) (hcl : cur.length = c)
  (hnews : ∀ w, Hp w0 F (pt b (.cells cur.toArray e (0, 0)) :: m) w → ∀ (j : Nat) (v : Value), news[j]? = some v → w.cell? (a.add j) = some v) :
  HO P ⟨some d, .call ⟨.builtin .append, #[x, y], #[T, T]⟩, T', pos, after, g⟩ Q N l (Hp w0 F (pt b (.cells cur.toArray e (0, 0)) :: m)) (α := Unit) (fun _ => (d, .slice (some ⟨b, 0, none⟩) (n + k) c) :: l) (fun _ => Hp w0 F (pt b (.cells (put cur n news).toArray e (0, 0)) :: m)) :=
 zh5 (val := fun _ => .slice (some ⟨b, 0, none⟩) (n + k) c) hok (fun w hw => by
  obtain ⟨i, z, h1', h2, h3, h4, h5⟩ := zmf hi
  have hr := run_append_room (P := P) w T T' e i (zbk hT) h1' b n c cur.toArray (hw.get sQ) a k c' news (by rw [h2, bK]; exact hl) (hnews w hw) (za5.1 h1) hroom (by rw [h2, bK, hl, bR, hcl]; exact hroom)
  rw [h2, bK] at hr
  refine ⟨(), _, ?_, hw.setRow _⟩
  simp only [execOp, resolve, invoke, builtin]
  simp [zau hx, zau hy, hr, put])
theorem qaq {T T' e : TypeId} {x : Operand} {b o n c bt : Nat} {cur : List Value} {z : Value} (hok : (zhi (.call ⟨.builtin .clear, #[x], #[T]⟩) && zes l (.call ⟨.builtin .clear, #[x], #[T]⟩)) = true) (hx : evO l x = some (.slice (some ⟨b, o, none⟩) n c))
  (hT : zks P T = some e) (hi : zo0 P e = some (1, bt, z)) (hz : z.cells = #[z]) (h1 : z.oneCell' = true) (hn : 0 < n) (hfit : o + n ≤ cur.length) :
  HO P ⟨none, .call ⟨.builtin .clear, #[x], #[T]⟩, T', pos, after, g⟩ Q N l (Hp w0 F (pt b (.cells cur.toArray e (0, 0)) :: m)) (α := Unit) (fun _ => l) (fun _ => Hp w0 F (pt b (.cells (put cur o (List.replicate n z)).toArray e (0, 0)) :: m)) :=
 qpm (val := fun _ => .tuple #[]) hok (fun w hw => by
  obtain ⟨i, h1', h2, h3, h4⟩ := zhs hi
  have hzc : (Builtin.zeroCells z.cells n).toList = List.replicate n z := by
   rw [hz]
   simp [Builtin.zeroCells]
   apply List.ext_getElem
   ·simp
   ·intro i h1 h2
    simp [jY]
  have hst := run_storeCells_at P b o e (List.replicate n z) 0 cur.toArray w (hw.get sQ) (by simpa using hfit) (by intro v hv; rw [List.eq_of_mem_replicate hv]; exact h1)
  simp only [fH] at hst
  obtain ⟨k, rfl⟩ : ∃ k, n = k + 1 := ⟨n - 1, oQ⟩
  refine ⟨(), _, ?_, hw.setRow _⟩
  simp only [execOp, resolve, invoke, builtin]
  simp [zau hx, Builtin.clear_, run_underlying (zbk hT), zeroValue, typeInfo, h1', h4, hzc, hst, put])
theorem qqf {T e : TypeId} {x y z u : Operand} {a : Option Addr} {n c sz : Nat} {k k' k2 : IntKind} {p q r : Int} {i j mx : Nat} [h : NatOf p i] [h' : NatOf q j] [h2 : NatOf r mx] (hx : evO l x = some (.slice a n c)) (hy : evO l y = some (.int k p)) (hz : evO l z = some (.int k' q)) (hu' : evO l u = some (.int k2 r)) (hT : zks P T = some e) (he : zc3 P e = some sz) (hi : i ≤ j ∧ j ≤ mx ∧ mx ≤ c) :
  OV P (.slice T x (some y) (some z) (some u)) ty l H (.slice (zrc a (decide (mx = i)) (i * sz)) (j - i) (mx - i)) := ov fun _ _ _ w _ => by
 obtain rfl := h.eq; obtain rfl := h'.eq; obtain rfl := h2.eq
 have hu := zbk hT
 have hu2 : P.underlying T = some (.slice (P.elem T)) := by rw [hu]; simp [Program.elem, hu]
 have he' : P.elem T = e := by simp [Program.elem, hu]
 obtain ⟨r, hq, hqs⟩ := zbp he
 have h := run_slice_lhm (P := P) w T a n c hu2 k k' k2 i j mx oQ oQ oQ oQ
 have hzz : (sizeOf (P.elem T)).run P w = .ok sz w := by rw [he']; simp [sizeOf, typeInfo, hq, hqs]
 simp only [execOp, zau hx, cK, zau hy, zau hz, zau hu', Sem.run_bind, run_sliceAt_slice w T _ _ _ _ hu2, h, hzz, Result.andThen_ok, bT, sliced, zrc]
 simp [Sem.run_pure]
theorem qle {f : FuncId} {fn : Func} {E : Array Value → Sem Value} {xs : List Operand} {tys : Array TypeId} {vs : List Value} {v : Value} (hf : P.funcs[f]? = some fn) (hname : (fn.name == "runtime.NumGoroutine") = false) (hb : fn.body.isNone = true) (hn : Extern.findNext fn = none) (he : Extern.find fn = some E)
  (hx : evs l xs = some vs) (hr : ∀ w, H w → (E vs.toArray).run P w = .ok v w) : OV P (.call ⟨.value (.func f), xs.toArray, tys⟩) ty l H v := ov fun _ _ _ w hw => by
 simp only [execOp, resolve, Deferred.ofValue, ev, fF, zhz hx]
 simp [invoke, run_callFunc_extern hf hname hb hn he, hr w hw]
theorem zge {z : Value} (hz : z.cells = #[z]) (n : Nat) : Builtin.zeroCells z.cells n = (List.replicate n z).toArray := by
 apply Array.ext'
 rw [hz]
 simp [Builtin.zeroCells]
 apply List.ext_getElem
 ·simp
 ·intro i h1 h2
  simp [jY]
theorem qap {T Tn T' e : TypeId} {x y : Operand} {base : Option Addr} {n c k bt : Nat} {z : Value} {kq kn : IntKind} {i : Int} [h : NatOf i k] {olds : List Value} (hok : ze5 N l (.call ⟨.builtin .append, #[x, y], #[T, Tn]⟩) d = true) (hx : evO l x = some (.slice base n c)) (hy : evO l y = some (.int kq i))
  (hT : zks P T = some e) (hTn : P.underlying Tn = some (.int kn)) (hi : zo0 P e = some (1, bt, z)) (hz : z.cells = #[z]) (h0 : 0 < k) (hg : c < n + k) (hs : (n + k) * (bt + 1) ≤ 140737488355328) (hol : olds.length = n) (hb : base = none → n = 0) (hsrc : ∀ w, Hp w0 F m w → Rd w base olds) :
  HO P ⟨some d, .call ⟨.builtin .append, #[x, y], #[T, Tn]⟩, T', pos, after, g⟩ Q N l (Hp w0 F m) (α := { p : Nat × Nat // w0.heap.size ≤ p.1 ∧ n + k ≤ p.2 }) (fun p => (d, .slice (some ⟨p.1.1, 0, none⟩) (n + k) p.1.2) :: l) (fun p => Hp w0 F (own e 1 (some p.1) (n + k) (olds ++ List.replicate k z) :: m)) := by
 obtain rfl := h.eq
 refine zh5 (val := fun p : { p : Nat × Nat // w0.heap.size ≤ p.1 ∧ n + k ≤ p.2 } => .slice (some ⟨p.1.1, 0, none⟩) (n + k) p.1.2) hok (fun w hw => ?_)
 obtain ⟨i, h1', h2, h3, h4⟩ := zhs hi
 have hle : (n + k) * i.bytes + (n + k) ≤ 140737488355328 := by rw [h3]; rwa [fJ, bK] at hs
 have hkb : k * i.bytes ≤ (n + k) * i.bytes := eV _ oQ
 have hold : (Builtin.firstCells i.size n (.slice base n c)).run P w.drew = .ok olds.toArray w.drew := by
  rw [h2]
  cases base with
  | none =>
   obtain rfl : n = 0 := hb rfl
   obtain rfl : olds = [] := bM hol
   exact run_firstCells_none w.drew 1 0 0 c
  | some a =>
   refine run_firstCells_some w.drew 1 n a n c olds oQ fun j v hj => ?_
   rcases hsrc w hw with e | ⟨b', off', e, hc⟩
   ·rw [e] at hj; cases hj
   ·cases e
    rw [zc9]
    exact hc j v hj
 have hr := Lib.run_append_grow_zeros (P := P) w T Tn T' e i z kq kn (zbk hT) hTn h1' h4 base n c olds hold k h0 oQ hg oQ oQ (growslice_fits oQ oQ)
 have hge := grownCap_ge w (n + k) c e
 have hnew : (own e 1 (some (w.drew.heap.size, grownCap w (n + k) c e)) (n + k) (olds ++ List.replicate k z)).prop (w.drew.alloc (.cells (olds.toArray ++ Builtin.zeroCells z.cells k ++ Builtin.zeroCells z.cells (grownCap w (n + k) c e - (n + k))) e)) := by
  refine ⟨by simp [hol], hge, grownCap_le_maxLen w (n + k) c e (by unfold maxLen; omega), _, heap_alloc_new w.drew _, ?_, ?_⟩
  ·rw [zge hz, zge hz]
   simp [hol]
   omega
  ·rw [zge hz, zge hz]
   simp only [gC, aH, bK]
   rw [← aH, fK (by simp [hol])]
 refine ⟨⟨(w.heap.size, grownCap w (n + k) c e), hw.fr.size, hge⟩, _, ?_, (hw.drew).newOwn (w := w.drew) hnew⟩
 simp only [execOp, resolve, invoke, builtin]
 simp [zau hx, zau hy, hr]
theorem qdk {e : TypeId} {sz : Nat} (he : zc3 P e = some sz) (w : World) : (Go.sizeOf e).run P w = .ok sz w := by
 obtain ⟨q, hq, hqs⟩ := zbp he
 simp [Go.sizeOf, typeInfo, hq, hqs]
theorem zj9 {tS tR e : TypeId} {vb b j la ca lb cb : Nat} {x : Value} {cur : List Value} {w : World} (ht : zks P tS = some e) (he : zc3 P e = some 1) (hA : (own e 1 (some (vb, 1)) 1 [x]).prop w) (hB : w.heap[b]? = some (.cells cur.toArray e (0, 0))) (hne : vb ≠ b) (h0 : cur ≠ []) :
  (Extern.SlicesOverlaps.overlaps #[tS, tS] #[tR] #[.slice (some ⟨vb, 0, none⟩) la ca, .slice (some ⟨b, j, none⟩) lb cb]).run P w = .ok (.bool false) w := by
 obtain ⟨-, -, -, c2, h3, h4, -⟩ := hA
 refine Lib.run_overlaps_apart w tS tR e (zbk ht) 1 (qdk he) ⟨vb, 0, none⟩ ⟨b, j, none⟩ la ca lb cb hne e e c2.size cur.length ?_ ?_ ?_ ?_ ?_
 ·simp [World.shape?, h3]
 ·simp [World.shape?, hB]
 ·simpa using h0
 ·simp [World.frozen?, h3]
 ·simp [World.frozen?, h3]
theorem zsd {w : World} {b i : Nat} {cur cs : List Value} {E : TypeId} (h : w.heap[b]? = some (.cells cur.toArray E (0, 0))) (hc : ∀ (j : Nat) v, cs[j]? = some v → cur[i + j]? = some v) : Rd w (some ⟨b, i, none⟩) cs :=
 Rd.mk fun j v hv => by
  have := za7 h (i + j) v (hc j v hv)
  rwa [aF] at this
theorem zwj {A B zs : List Value} {z x : Value} (hB : B ≠ []) : put (put (A ++ B ++ z :: zs) (A.length + 1) B) A.length [x] = A ++ x :: B ++ zs := by
 obtain ⟨b, B', rfl⟩ := gV hB
 have e1 : (A ++ b :: B' ++ z :: zs).take (A.length + 1) = A ++ [b] := by
  rw [aH, List.take_append, cA oQ, show A.length + 1 - A.length = 1 by omega]; rfl
 have e2 : (A ++ b :: B' ++ z :: zs).drop (A.length + 1 + (b :: B').length) = zs := by
  rw [dS, cP (by simp only [aA, aZ]; omega), aI]
  simp only [aA, aZ]
  rw [show A.length + 1 + (B'.length + 1) - (A.length + (B'.length + 1)) = 1 by omega]; rfl
 have e3 : put (A ++ b :: B' ++ z :: zs) (A.length + 1) (b :: B') = A ++ ([b] ++ (b :: B') ++ zs) := by
  unfold put; rw [e1, e2]; simp
 rw [e3]
 unfold put
 rw [fK rfl, dS, cP sQ, aI]
 simp
theorem qay {A B Z zs : List Value} {x : Value} (hZ : Z.length = B.length + 1) : put (put (A ++ Z ++ zs) A.length [x]) (A.length + 1) B = A ++ x :: B ++ zs := by
 have e1 : put (A ++ Z ++ zs) A.length [x] = A ++ [x] ++ (Z.drop 1 ++ zs) := by
  unfold put
  rw [aH A Z zs, fK rfl, dS, cP sQ, aI]
  rw [show A.length + [x].length - A.length = 1 by simp, dS, show 1 - Z.length = 0 by omega]
  rfl
 rw [e1]
 unfold put
 rw [fK sQ, dS, cP (by simp only [aA, bW]; omega), aI]
 rw [dS, cP (by simp only [aA, bW, aU]; omega), aI]
 simp only [aA, aU, bW]
 rw [show A.length + 1 + B.length - (A.length + 1) - (Z.length - 1) = 0 by omega]
 simp
theorem qgu {A B zs : List Value} {y z : Value} : put (put (A ++ y :: B ++ zs) A.length B) (A.length + B.length) [z] = A ++ B ++ z :: zs := by
 have hR : ((y :: B).drop B.length).length = 1 := by simp
 have e1 : put (A ++ y :: B ++ zs) A.length B = (A ++ B) ++ ((y :: B).drop B.length ++ zs) := by
  unfold put
  rw [aH A (y :: B) zs, fK rfl, dS, cP oQ, aI]
  rw [show A.length + B.length - A.length = B.length by omega, dS, show B.length - (y :: B).length = 0 by simp]
  rfl
 rw [e1]
 generalize (y :: B).drop B.length = R at hR
 unfold put
 rw [fK sQ, dS, cP (by simp only [aA, bW]; omega), aI]
 rw [dS, cP (by simp only [aA, bW]; omega), aI]
 simp only [aA, bW]
 rw [hR, show A.length + B.length + 1 - (A.length + B.length) - 1 = 0 by omega]
 simp
/-! ### the tail of a drawn region: several operations behind all others -/
section
variable {S : World → Prop} {t : Nat}
def HE (P : Program) (ops : Array Oper) (Q : Exit → Act → World → Prop) (S : World → Prop) (t : Nat) (N : Fm) (n : Nat) (listed : Array Bool) (l : zaq) (H : World → Prop) : Prop :=
 ∀ a w, St N l a → H w → znu P ops (znz Q) S t n listed a w
theorem qq8 {n : Nat} {listed : Array Bool} (h : HE P ops Q S t N n listed l H) : HD P ops Q S t N n listed l H := by
 unfold HD
 exact fun _ => h
theorem ql5 (i : Nat) {oi : Oper} {n : Nat} {listed : Array Bool} {α : Type} {l' : α → zaq} {H' : α → World → Prop} (hr : Region.ready .any ops listed = [i]) (ht : t ≤ i) (hi0 : nth ops.toList i = some oi) (hg : oi.guard = none)
  (h : HO P oi (znz Q) N l H l' H') (k : ∀ x, HE P ops Q S t N n (listed.setIfInBounds i true) (l' x) (H' x)) : HE P ops Q S t N (n + 1) listed l H := by
 unfold HE HO at *
 intro a w s hw
 have hi := zek hi0
 refine ⟨fun h => (by rw [hr] at h; cases h), fun j hj => ?_⟩
 obtain rfl : j = i := by rw [hr] at hj; simpa using hj
 unfold wpOp
 simp only [hi]
 rw [if_pos (by simp [Region.wanted, hg])]
 exact .inl (And.right <| h a w s hw _ fun x a' w' s' hw' => ⟨fun h => oQ, k x a' w' s' hw'⟩)
theorem qra {listed : Array Bool} (hr : Region.ready .any ops listed = []) (k : HX Q .normal N l H) : HE P ops Q S t N 0 listed l H := by
 unfold HE HX at *
 exact fun a w s hw => ⟨hr, k a w s hw⟩
def qsd (ops : Array Oper) (L : Array Bool) (t i : Nat) : Bool :=
 let s := fun (l : Array Bool) k => l.setIfInBounds k true
 let r := fun l => Region.ready .any ops l
 Nat.ble t i && (r L == [i] && (r (s L i) == [i + 1] && (r (s (s L i) (i + 1)) == [i + 2] && r (s (s (s L i) (i + 1)) (i + 2)) == [])))
theorem zn9 (i : Nat) {listed : Array Bool} {x z1 y1 y2 d2 f2 c1 c2 b : Nat} {T U1 U2 E t1 t2 t3 : TypeId} {p1 p2 p3 : String} {a1 a2 a3 : Array Edge} {v1 v2 : Value} {cs : Array Value}
  (n1 : nth ops.toList i = some ⟨none, .store U1 (.tmp z1) (.tmp y1), t1, p1, a1, none⟩)
  (n2 : nth ops.toList (i + 1) = some ⟨some d2, .fieldAddr T (.tmp x) f2, t2, p2, a2, none⟩) (n3 : nth ops.toList (i + 2) = some ⟨none, .store U2 (.tmp d2) (.tmp y2), t3, p3, a3, none⟩)
  (hz : get l z1 = some (.pointer (some ⟨b, c1, none⟩))) (hx : get l x = some (.pointer (some ⟨b, 0, none⟩))) (h1 : get l y1 = some v1) (h2 : get l y2 = some v2) (e2 : get l d2 = none)
  (hf2 : zk8 P T f2 = some c2) (hU1 : (P.info? U1).map (·.size) = some 1) (hU2 : (P.info? U2).map (·.size) = some 1)
  (u1 : v1.cells = #[v1]) (u2 : v1.oneCell' = true) (u3 : v2.cells = #[v2]) (u4 : v2.oneCell' = true)
  (hq : qsd ops listed t i = true) (hd : Nat.ble (d2 + 1) N.n = true) (hs1 : c1 < cs.size) (hs2 : c2 < cs.size)
  (k : HX Q .normal N l (Hp w0 F (pt b (.cells ((cs.setIfInBounds c1 v1).setIfInBounds c2 v2) E (0, 0)) :: m))) : HD P ops Q S t N 3 listed l (Hp w0 F (pt b (.cells cs E (0, 0)) :: m)) := by
 simp only [qsd, bH, beq_iff_eq] at hq
 obtain ⟨q0, q1, q2, q3, q4⟩ := hq
 have hti : t ≤ i := bN q0
 have ext : ∀ v, ∀ t u, get l t = some u → get ((d2, v) :: l) t = some u := fun v t u h => by
  rw [zbf, if_neg (fun e => by rw [e, h] at e2; cases e2)]
  exact h
 have HS : ∀ {l' : zaq} {cs : Array Value} {d y c : Nat} {U : TypeId} {v : Value} {ty : TypeId} {p : String} {a : Array Edge}, get l' d = some (.pointer (some ⟨b, c, none⟩)) → get l' y = some v → (P.info? U).map (·.size) = some 1 → v.cells = #[v] → v.oneCell' = true → c < cs.size →
   HO P ⟨none, .store U (.tmp d) (.tmp y), ty, p, a, none⟩ (znz Q) N l' (Hp w0 F (pt b (.cells cs E (0, 0)) :: m)) (α := Unit) (fun _ => l') (fun _ => Hp w0 F (pt b (.cells (cs.setIfInBounds c v) E (0, 0)) :: m)) := fun hd hy hU hc ho hs =>
  zah (by simp [zhi, zes, Op.operands, zep, hd, hy]) hd hy hU hc ho hs
 refine qq8 ?_
 refine ql5 i q1 hti n1 rfl (HS hz h1 hU1 u1 u2 hs1) fun _ => ?_
 refine ql5 (i + 1) q2 oQ n2 rfl (qf9 (by simpa [ze5, zhi, zes, Op.operands, zep, hx] using hd) (zct hx hf2)) fun _ => ?_
 refine ql5 (i + 2) q3 oQ n3 rfl (HS (by rw [zbf, if_pos rfl]) (ext _ _ _ h2) hU2 u3 u4 (by rw [Array.size_setIfInBounds]; exact hs2)) fun _ => ?_
 refine qra q4 ?_
 unfold HX at *
 exact fun a w s hw => k a w ⟨s.size, s.defers, fun t v h => s.slot t v (ext _ t v h)⟩ hw
def qoz (ops : Array Oper) (L : Array Bool) (t i1 i2 i3 i4 : Nat) : Bool :=
 let s := fun (l : Array Bool) k => l.setIfInBounds k true
 let r := fun l => Region.ready .any ops l
 (Nat.blt i1 t && (Nat.blt i2 t && (Nat.blt i3 t && (Nat.blt i4 t && (!Nat.beq i1 i3 && !Nat.beq i2 i3))))) && (r L == [i1, i3] && (r (s L i1) == [i2, i3] && (r (s (s L i1) i2) == [i3] && (r (s (s L i1) i3) == [i2] && (r (s L i3) == [i1] && r (s (s (s L i1) i2) i3) == [i4])))))
theorem qku (i1 i2 i3 i4 : Nat) {o1 o2 o3 o4 : Oper} {n : Nat} {listed : Array Bool} {α1 α2 α3 α4 : Type} {A B rest : List Item} {X1 : α1 → Item} {X2 : α3 → Item} {A' : α2 → List Item} {B' : α4 → List Item} {d1 d2 d3 d4 : Nat} {u1 : α1 → Value} {u2 : α2 → Value} {u3 : α3 → Value} {u4 : α4 → Value}
  (hq : qoz ops listed t i1 i2 i3 i4 = true) (n1 : nth ops.toList i1 = some o1) (n2 : nth ops.toList i2 = some o2) (n3 : nth ops.toList i3 = some o3) (n4 : nth ops.toList i4 = some o4) (g1 : o1.guard = none) (g2 : o2.guard = none) (g3 : o3.guard = none) (g4 : o4.guard = none)
  (e1 : get l d1 = none) (e2 : get l d2 = none) (e3 : get l d3 = none) (e4 : get l d4 = none) (hne : (!Nat.beq d1 d2 && (!Nat.beq d1 d3 && (!Nat.beq d1 d4 && (!Nat.beq d2 d3 && (!Nat.beq d2 d4 && !Nat.beq d3 d4))))) = true) (hS : ∀ w, Hp w0 F rest w → S w)
  (s1 : ∀ l' m', (∀ t u, get l t = some u → get l' t = some u) → HO P o1 (znz Q) N l' (Hp w0 F m') (fun a => (d1, u1 a) :: l') (fun a => Hp w0 F (X1 a :: m')))
  (s2 : ∀ a l' m', (∀ t u, get l t = some u → get l' t = some u) → get l' d1 = some (u1 a) → HO P o2 (znz Q) N l' (Hp w0 F (A ++ X1 a :: m')) (fun b => (d2, u2 b) :: l') (fun b => Hp w0 F (A' b ++ m')))
  (s3 : ∀ l' m', (∀ t u, get l t = some u → get l' t = some u) → HO P o3 (znz Q) N l' (Hp w0 F m') (fun a => (d3, u3 a) :: l') (fun a => Hp w0 F (X2 a :: m')))
  (s4 : ∀ c l' m', (∀ t u, get l t = some u → get l' t = some u) → get l' d3 = some (u3 c) → HO P o4 (znz Q) N l' (Hp w0 F (B ++ X2 c :: m')) (fun b => (d4, u4 b) :: l') (fun b => Hp w0 F (B' b ++ m')))
  (k : ∀ b d, HD P ops Q S t N n ((((listed.setIfInBounds i1 true).setIfInBounds i2 true).setIfInBounds i3 true).setIfInBounds i4 true) ((d4, u4 d) :: (d2, u2 b) :: l) (Hp w0 F (A' b ++ (B' d ++ rest)))) : HD P ops Q S t N (n + 4) listed l (Hp w0 F (A ++ (B ++ rest))) := by
 simp only [qoz, bH, beq_iff_eq, eN] at hq
 obtain ⟨⟨b1, b2, b3, b4, b5, b6⟩, q1, q2, q3, q4, q5, q6⟩ := hq
 have b1 := bN b1
 have b2 := bN b2
 have b3 := bN b3
 have b4 := bN b4
 have nb : ∀ {a b : Nat}, Nat.beq a b = false → a ≠ b := fun h e => by rw [e, kJ] at h; cases h
 simp only [bH, eN] at hne
 obtain ⟨f12, f13, f14, f23, f24, f34⟩ := hne
 have f12 := nb f12
 have f13 := nb f13
 have f14 := nb f14
 have f23 := nb f23
 have f24 := nb f24
 have f34 := nb f34
 have c13 : (listed.setIfInBounds i3 true).setIfInBounds i1 true = (listed.setIfInBounds i1 true).setIfInBounds i3 true := dI _ _ (Ne.symm (nb b5))
 have c23 : ∀ L : Array Bool, (L.setIfInBounds i3 true).setIfInBounds i2 true = (L.setIfInBounds i2 true).setIfInBounds i3 true := fun L => dI _ _ (Ne.symm (nb b6))
 have ext : ∀ {l' : zaq} {d : Nat} (v : Value), (∀ t u, get l t = some u → get l' t = some u) → get l d = none → ∀ t u, get l t = some u → get ((d, v) :: l') t = some u := fun v hl hd t u h => by
  rw [zbf, if_neg (fun e => by rw [e, h] at hd; cases hd)]
  exact hl t u h
 have x0 : ∀ t u, get l t = some u → get l t = some u := fun _ _ h => h
 have zz : ∀ (d : Nat) (v : Value) (l' : zaq), get ((d, v) :: l') d = some v := fun d v l' => by rw [zbf, if_pos rfl]
 have zn : ∀ {d e : Nat} {v u : Value} {l' : zaq}, e ≠ d → get l' d = some u → get ((e, v) :: l') d = some u := fun hne h => by rw [zbf, if_neg hne]; exact h
 have sub : ∀ {M : List Item}, rest.Sublist M → ∀ w, Hp w0 F M w → S w := fun hs w hw => hS w (hw.sub hs)
 have hr : ∀ (M : List Item), rest.Sublist (M ++ rest) := fun M => eK _ _
 have fin : ∀ {l' : zaq} {b : α2} {d : α4} {L : Array Bool}, L = (((listed.setIfInBounds i1 true).setIfInBounds i2 true).setIfInBounds i3 true) → (∀ t u, get l t = some u → get l' t = some u) → get l' d2 = some (u2 b) → HD P ops Q S t N n (L.setIfInBounds i4 true) ((d4, u4 d) :: l') (Hp w0 F (B' d ++ (A' b ++ rest))) := fun {l'} {b} {d} {L} hL hl h2 => by
  subst hL
  refine zih (bQ _ _ _) ?_
  have := k b d
  unfold HD at this ⊢
  refine fun inv a w s hw => this inv a w ⟨s.size, s.defers, fun t v h => ?_⟩ hw
  rw [zbf] at h
  by_cases e : d4 = t
  ·rw [if_pos e] at h
   exact s.slot t v (by rw [zbf, if_pos e]; exact h)
  ·rw [if_neg e, zbf] at h
   refine s.slot t v ?_
   rw [zbf, if_neg e]
   by_cases e2 : d2 = t
   ·rw [if_pos e2] at h
    rw [← e2, h2]; exact h
   ·rw [if_neg e2] at h
    exact hl t v h
 have st4 : ∀ {l' : zaq} {b : α2} {c : α3} {M : List Item} {L : Array Bool}, L = (((listed.setIfInBounds i1 true).setIfInBounds i2 true).setIfInBounds i3 true) → (∀ t u, get l t = some u → get l' t = some u) → get l' d2 = some (u2 b) → get l' d3 = some (u3 c) → M.Perm (B ++ X2 c :: (A' b ++ rest)) → HD P ops Q S t N (n + 1) L l' (Hp w0 F M) := fun {l'} {b} {c} {M} {L} hL hl h2 h3 hp => by
  refine zih hp ?_
  refine zaw i4 ⟨by rw [hL]; exact q6, b4⟩ n4 (by rw [g4]; rfl) (s4 c l' _ hl h3) (fun d => sub (by rw [← aH]; exact hr _)) fun d => ?_
  exact fin hL hl h2
 refine zs6 i1 i3 ⟨q1, b1, b3⟩ n1 n3 g1 g3 (s1 l _ x0) (s3 l _ x0) (fun a => sub (by rw [← aH, ← aE]; exact hr _)) (fun c => sub (by rw [← aH, ← aE]; exact hr _)) (fun a => ?_) (fun c => ?_)
 ·refine zih (m' := A ++ X1 a :: (B ++ rest)) bJ.symm ?_
  refine zs6 i2 i3 ⟨q2, b2, b3⟩ n2 n3 g2 g3 (s2 a _ _ (ext _ x0 e1) (zz _ _ _)) (s3 _ _ (ext _ x0 e1)) (fun b => sub (by rw [← aH]; exact hr _)) (fun c => sub (.cons _ (((hr B).cons _).trans (eK _ _)))) (fun b => ?_) (fun c => ?_)
  ·refine zaw i3 ⟨q3, b3⟩ n3 (by rw [g3]; rfl) (s3 _ _ (ext _ (ext _ x0 e1) e2)) (fun c => sub (by rw [← aH, ← aE]; exact hr _)) fun c => ?_
   refine st4 rfl (ext _ (ext _ (ext _ x0 e1) e2) e3) (zn (Ne.symm f23) (zz _ _ _)) (zz _ _ _) ?_
   refine (List.Perm.cons _ (bQ _ _ _)).trans bJ.symm
  ·refine zih (m' := A ++ X1 a :: (X2 c :: (B ++ rest))) ?_ ?_
   ·refine List.Perm.trans ?_ (cV A (List.Perm.swap _ _ _))
    exact bJ.symm
   refine zaw i2 ⟨q4, b2⟩ n2 (by rw [g2]; rfl) (s2 a _ _ (ext _ (ext _ x0 e1) e3) (zn (Ne.symm f13) (zz _ _ _))) (fun b => sub (by rw [← aE, ← aH]; exact hr _)) fun b => ?_
   refine st4 (c23 _) (ext _ (ext _ (ext _ x0 e1) e3) e2) (zz _ _ _) (zn f23 (zz _ _ _)) ?_
   refine (bJ).trans ?_
   refine (List.Perm.cons _ (bQ _ _ _)).trans bJ.symm
 ·refine zaw i1 ⟨q5, b1⟩ n1 (by rw [g1]; rfl) (s1 _ _ (ext _ x0 e3)) (fun a => sub (by rw [← aH, ← aE, ← aE]; exact hr _)) fun a => ?_
  rw [c13]
  refine zih (m' := A ++ X1 a :: (X2 c :: (B ++ rest))) ?_ ?_
  ·refine (List.Perm.swap _ _ _).trans ?_
   refine List.Perm.trans ?_ (cV A (List.Perm.swap _ _ _))
   refine List.Perm.trans ?_ bJ.symm
   exact List.Perm.cons _ bJ.symm
  refine zaw i2 ⟨q4, b2⟩ n2 (by rw [g2]; rfl) (s2 a _ _ (ext _ (ext _ x0 e3) e1) (zz _ _ _)) (fun b => sub (by rw [← aE, ← aH]; exact hr _)) fun b => ?_
  refine st4 (c23 _) (ext _ (ext _ (ext _ x0 e3) e1) e2) (zz _ _ _) (zn f23 (zn f13 (zz _ _ _))) ?_
  refine (bJ).trans ?_
  refine (List.Perm.cons _ (bQ _ _ _)).trans bJ.symm
def qky (ops : Array Oper) (L : Array Bool) (t i1 i2 i3 i4 p : Nat) : Bool :=
 let s := fun (l : Array Bool) k => l.setIfInBounds k true
 let r := fun l => Region.ready .any ops l
 (Nat.blt i1 t && (Nat.blt i2 t && (Nat.blt i3 t && (Nat.blt i4 t && (!Nat.beq i1 i3 && !Nat.beq i2 i3))))) && (r L == [i1, i3] && (r (s L i1) == [i2, i3] && (r (s (s (s L i1) i2) p) == [i3] && (r (s (s L i1) i3) == [i2] && (r (s L i3) == [i1] && (r (s (s (s (s L i1) i2) p) i3) == [i4] && (zp7 ops t (s (s L i1) i2) p && (zp7 ops t (s (s (s L i1) i2) i3) p && !Nat.beq i3 p))))))))
theorem qew (i1 i2 i3 i4 p : Nat) {o1 o2 o3 o4 : Oper} {n : Nat} {listed : Array Bool} {α1 α2 α3 α4 : Type} {A B rest : List Item} {X1 : α1 → Item} {X2 : α3 → Item} {A' : α2 → List Item} {B' : α4 → List Item} {d1 d2 d3 d4 dp x f c pb : Nat} {T tp : TypeId} {pp : String} {pa : Array Edge} {u1 : α1 → Value} {u2 : α2 → Value} {u3 : α3 → Value} {u4 : α4 → Value}
  (hq : qky ops listed t i1 i2 i3 i4 p = true) (np : nth ops.toList p = some ⟨some dp, .fieldAddr T (.tmp x) f, tp, pp, pa, none⟩) (hpx : get l x = some (.pointer (some ⟨pb, 0, none⟩))) (hpf : zk8 P T f = some c) (ep : get l dp = none) (hdp : Nat.ble (dp + 1) N.n = true) (hnp : (!Nat.beq dp d1 && (!Nat.beq dp d2 && (!Nat.beq dp d3 && !Nat.beq dp d4))) = true) (n1 : nth ops.toList i1 = some o1) (n2 : nth ops.toList i2 = some o2) (n3 : nth ops.toList i3 = some o3) (n4 : nth ops.toList i4 = some o4) (g1 : o1.guard = none) (g2 : o2.guard = none) (g3 : o3.guard = none) (g4 : o4.guard = none)
  (e1 : get l d1 = none) (e2 : get l d2 = none) (e3 : get l d3 = none) (e4 : get l d4 = none) (hne : (!Nat.beq d1 d2 && (!Nat.beq d1 d3 && (!Nat.beq d1 d4 && (!Nat.beq d2 d3 && (!Nat.beq d2 d4 && !Nat.beq d3 d4))))) = true) (hS : ∀ w, Hp w0 F rest w → S w)
  (s1 : ∀ l' m', (∀ t u, get l t = some u → get l' t = some u) → HO P o1 (znz Q) N l' (Hp w0 F m') (fun a => (d1, u1 a) :: l') (fun a => Hp w0 F (X1 a :: m')))
  (s2 : ∀ a l' m', (∀ t u, get l t = some u → get l' t = some u) → get l' d1 = some (u1 a) → HO P o2 (znz Q) N l' (Hp w0 F (A ++ X1 a :: m')) (fun b => (d2, u2 b) :: l') (fun b => Hp w0 F (A' b ++ m')))
  (s3 : ∀ l' m', (∀ t u, get l t = some u → get l' t = some u) → HO P o3 (znz Q) N l' (Hp w0 F m') (fun a => (d3, u3 a) :: l') (fun a => Hp w0 F (X2 a :: m')))
  (s4 : ∀ c l' m', (∀ t u, get l t = some u → get l' t = some u) → get l' d3 = some (u3 c) → HO P o4 (znz Q) N l' (Hp w0 F (B ++ X2 c :: m')) (fun b => (d4, u4 b) :: l') (fun b => Hp w0 F (B' b ++ m')))
  (k : ∀ b d, HD P ops Q S t N n (((((listed.setIfInBounds i1 true).setIfInBounds i2 true).setIfInBounds p true).setIfInBounds i3 true).setIfInBounds i4 true) ((d4, u4 d) :: (dp, .pointer (some ⟨pb, c, none⟩)) :: (d2, u2 b) :: l) (Hp w0 F (A' b ++ (B' d ++ rest)))) : HD P ops Q S t N (n + 5) listed l (Hp w0 F (A ++ (B ++ rest))) := by
 simp only [qky, bH, beq_iff_eq, eN] at hq
 obtain ⟨⟨b1, b2, b3, b4, b5, b6⟩, q1, q2, q3, q4, q5, q6, q7, q8, b7⟩ := hq
 have b1 := bN b1
 have b2 := bN b2
 have b3 := bN b3
 have b4 := bN b4
 have nb : ∀ {a b : Nat}, Nat.beq a b = false → a ≠ b := fun h e => by rw [e, kJ] at h; cases h
 simp only [bH, eN] at hne
 obtain ⟨f12, f13, f14, f23, f24, f34⟩ := hne
 have f12 := nb f12
 have f13 := nb f13
 have f14 := nb f14
 have f23 := nb f23
 have f24 := nb f24
 have f34 := nb f34
 simp only [bH, eN] at hnp
 obtain ⟨g1', g2', g3', g4'⟩ := hnp
 have g1' := nb g1'
 have g2' := nb g2'
 have g3' := nb g3'
 have g4' := nb g4'
 have c3p : ∀ L : Array Bool, (L.setIfInBounds i3 true).setIfInBounds p true = (L.setIfInBounds p true).setIfInBounds i3 true := fun L => dI _ _ (nb b7)
 have c13 : (listed.setIfInBounds i3 true).setIfInBounds i1 true = (listed.setIfInBounds i1 true).setIfInBounds i3 true := dI _ _ (Ne.symm (nb b5))
 have c23 : ∀ L : Array Bool, (L.setIfInBounds i3 true).setIfInBounds i2 true = (L.setIfInBounds i2 true).setIfInBounds i3 true := fun L => dI _ _ (Ne.symm (nb b6))
 have ext : ∀ {l' : zaq} {d : Nat} (v : Value), (∀ t u, get l t = some u → get l' t = some u) → get l d = none → ∀ t u, get l t = some u → get ((d, v) :: l') t = some u := fun v hl hd t u h => by
  rw [zbf, if_neg (fun e => by rw [e, h] at hd; cases hd)]
  exact hl t u h
 have x0 : ∀ t u, get l t = some u → get l t = some u := fun _ _ h => h
 have zz : ∀ (d : Nat) (v : Value) (l' : zaq), get ((d, v) :: l') d = some v := fun d v l' => by rw [zbf, if_pos rfl]
 have zn : ∀ {d e : Nat} {v u : Value} {l' : zaq}, e ≠ d → get l' d = some u → get ((e, v) :: l') d = some u := fun hne h => by rw [zbf, if_neg hne]; exact h
 have sub : ∀ {M : List Item}, rest.Sublist M → ∀ w, Hp w0 F M w → S w := fun hs w hw => hS w (hw.sub hs)
 have hr : ∀ (M : List Item), rest.Sublist (M ++ rest) := fun M => eK _ _
 have vp : ∀ {l' : zaq} {M : List Item} {L : Array Bool} {n : Nat}, zp7 ops t L p = true → (∀ t u, get l t = some u → get l' t = some u) → (∀ w, Hp w0 F M w → S w) → HD P ops Q S t N n (L.setIfInBounds p true) ((dp, .pointer (some ⟨pb, c, none⟩)) :: l') (Hp w0 F M) → HD P ops Q S t N (n + 1) L l' (Hp w0 F M) := fun {l'} {M} {L} {n} hb hl hs hk => by
  have hok : ze5 N l' (.fieldAddr T (.tmp x) f) dp = true := by simpa [ze5, zhi, zes, Op.operands, zep, hl _ _ hpx] using hdp
  obtain ⟨hs', hN, hk'⟩ := ze1 hok
  have hv : OV P (.fieldAddr T (.tmp x) f) tp l' S (.pointer (some ⟨pb, c, none⟩)) := zct (x := .tmp x) (hl _ _ hpx) hpf
  unfold OV at hv
  exact zva hb (zek np) hs (fun a s => .inl ⟨rfl, fun w hw => by rw [s.exec _ hs' hk', zjl _ _ none _ _ _ "" _ #[] _ none]; exact hv none "" #[] w hw⟩) (fun a s => s.put hN _) hk
 have fin : ∀ {l' : zaq} {b : α2} {d : α4} {L : Array Bool}, L = ((((listed.setIfInBounds i1 true).setIfInBounds i2 true).setIfInBounds p true).setIfInBounds i3 true) → (∀ t u, get l t = some u → get l' t = some u) → get l' d2 = some (u2 b) → get l' dp = some (.pointer (some ⟨pb, c, none⟩)) → HD P ops Q S t N n (L.setIfInBounds i4 true) ((d4, u4 d) :: l') (Hp w0 F (B' d ++ (A' b ++ rest))) := fun {l'} {b} {d} {L} hL hl h2 h5 => by
  subst hL
  refine zih (bQ _ _ _) ?_
  have := k b d
  unfold HD at this ⊢
  refine fun inv a w s hw => this inv a w ⟨s.size, s.defers, fun t v h => ?_⟩ hw
  rw [zbf] at h
  by_cases e : d4 = t
  ·rw [if_pos e] at h
   exact s.slot t v (by rw [zbf, if_pos e]; exact h)
  ·rw [if_neg e, zbf] at h
   refine s.slot t v ?_
   rw [zbf, if_neg e]
   by_cases e3 : dp = t
   ·rw [if_pos e3] at h
    rw [← e3, h5]; exact h
   ·rw [if_neg e3, zbf] at h
    by_cases e2 : d2 = t
    ·rw [if_pos e2] at h
     rw [← e2, h2]; exact h
    ·rw [if_neg e2] at h
     exact hl t v h
 have st4 : ∀ {l' : zaq} {b : α2} {c2 : α3} {M : List Item} {L : Array Bool}, L = ((((listed.setIfInBounds i1 true).setIfInBounds i2 true).setIfInBounds p true).setIfInBounds i3 true) → (∀ t u, get l t = some u → get l' t = some u) → get l' d2 = some (u2 b) → get l' d3 = some (u3 c2) → get l' dp = some (.pointer (some ⟨pb, c, none⟩)) → M.Perm (B ++ X2 c2 :: (A' b ++ rest)) → HD P ops Q S t N (n + 1) L l' (Hp w0 F M) := fun {l'} {b} {c2} {M} {L} hL hl h2 h3 h5 hp => by
  refine zih hp ?_
  refine zaw i4 ⟨by rw [hL]; exact q6, b4⟩ n4 (by rw [g4]; rfl) (s4 c2 l' _ hl h3) (fun d => sub (by rw [← aH]; exact hr _)) fun d => ?_
  exact fin hL hl h2 h5
 refine zs6 i1 i3 ⟨q1, b1, b3⟩ n1 n3 g1 g3 (s1 l _ x0) (s3 l _ x0) (fun a => sub (by rw [← aH, ← aE]; exact hr _)) (fun c => sub (by rw [← aH, ← aE]; exact hr _)) (fun a => ?_) (fun c => ?_)
 ·refine zih (m' := A ++ X1 a :: (B ++ rest)) bJ.symm ?_
  refine zs6 i2 i3 ⟨q2, b2, b3⟩ n2 n3 g2 g3 (s2 a _ _ (ext _ x0 e1) (zz _ _ _)) (s3 _ _ (ext _ x0 e1)) (fun b => sub (by rw [← aH]; exact hr _)) (fun c => sub (.cons _ (((hr B).cons _).trans (eK _ _)))) (fun b => ?_) (fun c => ?_)
  ·refine vp q7 (ext _ (ext _ x0 e1) e2) (sub (by rw [← aH]; exact hr _)) ?_
   refine zaw i3 ⟨q3, b3⟩ n3 (by rw [g3]; rfl) (s3 _ _ (ext _ (ext _ (ext _ x0 e1) e2) ep)) (fun c => sub (by rw [← aH, ← aE]; exact hr _)) fun c => ?_
   refine st4 rfl (ext _ (ext _ (ext _ (ext _ x0 e1) e2) ep) e3) (zn (Ne.symm f23) (zn g2' (zz _ _ _))) (zz _ _ _) (zn (Ne.symm g3') (zz _ _ _)) ?_
   refine (List.Perm.cons _ (bQ _ _ _)).trans bJ.symm
  ·refine zih (m' := A ++ X1 a :: (X2 c :: (B ++ rest))) ?_ ?_
   ·refine List.Perm.trans ?_ (cV A (List.Perm.swap _ _ _))
    exact bJ.symm
   refine zaw i2 ⟨q4, b2⟩ n2 (by rw [g2]; rfl) (s2 a _ _ (ext _ (ext _ x0 e1) e3) (zn (Ne.symm f13) (zz _ _ _))) (fun b => sub (by rw [← aE, ← aH]; exact hr _)) fun b => ?_
   rw [c23]
   refine vp q8 (ext _ (ext _ (ext _ x0 e1) e3) e2) (sub (by rw [← aE, ← aH]; exact hr _)) ?_
   refine st4 (c3p _) (ext _ (ext _ (ext _ (ext _ x0 e1) e3) e2) ep) (zn g2' (zz _ _ _)) (zn g3' (zn f23 (zz _ _ _))) (zz _ _ _) ?_
   refine (bJ).trans ?_
   refine (List.Perm.cons _ (bQ _ _ _)).trans bJ.symm
 ·refine zaw i1 ⟨q5, b1⟩ n1 (by rw [g1]; rfl) (s1 _ _ (ext _ x0 e3)) (fun a => sub (by rw [← aH, ← aE, ← aE]; exact hr _)) fun a => ?_
  rw [c13]
  refine zih (m' := A ++ X1 a :: (X2 c :: (B ++ rest))) ?_ ?_
  ·refine (List.Perm.swap _ _ _).trans ?_
   refine List.Perm.trans ?_ (cV A (List.Perm.swap _ _ _))
   refine List.Perm.trans ?_ bJ.symm
   exact List.Perm.cons _ bJ.symm
  refine zaw i2 ⟨q4, b2⟩ n2 (by rw [g2]; rfl) (s2 a _ _ (ext _ (ext _ x0 e3) e1) (zz _ _ _)) (fun b => sub (by rw [← aE, ← aH]; exact hr _)) fun b => ?_
  rw [c23]
  refine vp q8 (ext _ (ext _ (ext _ x0 e3) e1) e2) (sub (by rw [← aE, ← aH]; exact hr _)) ?_
  refine st4 (c3p _) (ext _ (ext _ (ext _ (ext _ x0 e3) e1) e2) ep) (zn g2' (zz _ _ _)) (zn g3' (zn f23 (zn f13 (zz _ _ _)))) (zz _ _ _) ?_
  refine (bJ).trans ?_
  refine (List.Perm.cons _ (bQ _ _ _)).trans bJ.symm
end
theorem qad {o : Oper} {α : Type} {l' : α → zaq} {M M' : α → List Item} (hs : ∀ x, (M' x).Sublist (M x)) (h : HO P o Q N l H l' (fun x => Hp w0 F (M x))) : HO P o Q N l H l' (fun x => Hp w0 F (M' x)) := by
 unfold HO at *
 exact fun a w s hw K hK => h a w s hw K fun x a' w' s' hw' => hK x a' w' s' (hw'.sub (hs x))
theorem zpz (w : World) {t ty e : TypeId} {i : TypeInfo} (ht : P.underlying t = some (.slice e)) (hi : P.info? e = some i) (base : Option Addr) (n c c' : Nat) (hn : n ≤ c) : (Builtin.append_ #[t, t] ty #[.slice base n c, .slice none 0 c']).run P w = .ok (.slice base n c) w := by
 cases base <;> simp [Builtin.append_, run_underlying ht, Go.sizeOf, typeInfo, hi, Builtin.lenOf, Builtin.firstCells, hn, storeCells]
theorem ze0 {T T' e : TypeId} {x y : Operand} {o : Option (Nat × Nat)} {a : Option Addr} {n k c b : Nat} {xs news : List Value} (hok : ze5 N l (.call ⟨.builtin .append, #[x, y], #[T, T]⟩) d = true) (hx : evO l x = some (slV o n)) (hy : evO l y = some (.slice a k c))
  (hT : zks P T = some e) (hi : qch P e = some (1, b, 1)) (hl : news.length = k) (h0 : a = none → k = 0) (h1 : zbx news = true) (hn : (n + k) * (b + 1) ≤ 140737488355328)
  (hnews : ∀ w, Hp w0 F (own e 1 o n xs :: m) w → Rd w a news) :
  HO P ⟨some d, .call ⟨.builtin .append, #[x, y], #[T, T]⟩, T', pos, after, g⟩ Q N l (Hp w0 F (own e 1 o n xs :: m)) (α := Option (Nat × Nat)) (fun o' => (d, slV o' (n + k)) :: l) (fun o' => Hp w0 F (own e 1 o' (n + k) (xs ++ news) :: m)) := by
 cases a with
 | some a =>
  refine zdh hok hx hy hT hi rfl (by rw [hl, bK]) h1 hn fun w hw j v hj => ?_
  rcases hnews w hw with e | ⟨b', off, e, hc⟩
  ·rw [e] at hj; cases hj
  ·cases e
   rw [zc9]
   exact hc j v hj
 | none =>
  obtain rfl := h0 rfl
  obtain rfl : news = [] := bM hl
  rw [fH, bA]
  refine zh5 (val := fun o' => slV o' n) hok (fun w hw => ⟨o, w, ?_, hw⟩)
  obtain ⟨hv, hc⟩ := zas (hw.item (own e 1 o n xs) (.head _)).1
  obtain ⟨i, z, h1', -⟩ := zmf hi
  have hr := zpz (P := P) (ty := T') w (zbk hT) h1' (slA o) n (slC o) c hc
  rw [← hv] at hr
  simp only [execOp, resolve, invoke, builtin]
  simp [zau hx, zau hy, hr]
theorem Hp.own0 {w : World} {e : TypeId} {n b c : Nat} {xs : List Value} (hw : Hp w0 F (own e 1 (some (b, c)) n xs :: m) w) : Hp w0 F (own e 1 (some (b, c)) 0 [] :: m) w :=
 hw.imp (fun _ h => h) (fun ⟨_, h1, h2, cur, h3, h4, _⟩ => ⟨rfl, aV _, h2, cur, h3, h4, by simp⟩) (zab _ _ _ _ _ _)
theorem zn1 {T e : TypeId} {d x b : Nat} {z v : Value} {g : Option (Nat × Bool)} (hx : get l x = some v) (hd : Nat.ble (d + 1) N.n = true) (hT : zks P T = some e) (hi : zo0 P e = some (1, b, z)) (hv : v.cells = #[v]) :
  HO P ⟨some d, .buildSlice T 1 #[(0, .tmp x)], ty, pos, after, g⟩ Q N l (Hp w0 F m) (α := { b : Nat // w0.heap.size ≤ b }) (fun c => (d, .slice (some ⟨c.1, 0, none⟩) 1 1) :: l) (fun c => Hp w0 F (own e 1 (some (c.1, 1)) 1 [v] :: m)) := by
 have hp : zil 1 l [(0, .tmp x)] = some [(0 * 1, 1, v)] := by simp [zil, evO, hx]
 have h := zba (Q := Q) (N := N) (m := m) (w0 := w0) (F := F) (ty := ty) (pos := pos) (after := after) (g := g) (len := 1) (ps := [(0, .tmp x)]) (L := [(0 * 1, 1, v)]) (d := d) (by simpa [ze5, zhi, zes, Op.operands, zep, hx] using hd) hT hi hp dQ (by simp [zdi, hv])
 have e1 : zen (zcw z (1 * 1)) [(0 * 1, 1, v)] = [v] := by
  simp [zen, over, zcw, hv]
 rw [e1] at h
 exact h
theorem qjj {f : FuncId} {d x y z : Nat} {vx vy vz : Value} {tys : Array TypeId} {g : Option (Nat × Bool)} {pre : List Item} {α : Type} {val : α → Value} {φ : α → Prop} {its : α → List Item} (hx : get l x = some vx) (hy : get l y = some vy) (hz : get l z = some vz) (hd : Nat.ble (d + 1) N.n = true) (hb : zbu P f = true) (hst : ∀ it ∈ pre, it.Stable none')
  (hc : ∀ w, Hp w0 F (pre ++ m) w → (∀ it ∈ pre, za1 it w) → pre.Pairwise Item.Apart → Ct P f #[vx, vy, vz] w (zan pre) val φ its) :
  HO P ⟨some d, .call ⟨.value (.func f), #[.tmp x, .tmp y, .tmp z], tys⟩, ty, pos, after, g⟩ Q N l (Hp w0 F (pre ++ m)) (α := { x : α // φ x }) (fun x => (d, val x.1) :: l) (fun x => Hp w0 F (its x.1 ++ m)) :=
 zg5 (xs := [.tmp x, .tmp y, .tmp z]) (vs := [vx, vy, vz]) (by simpa [ze5, zhi, zes, Op.operands, Call.operands, zep, hx, hy, hz] using hd) hb (by simp [evs, evO, hx, hy, hz]) hst hc
theorem qc2 {f : FuncId} {d x : Nat} {vx : Value} {tys : Array TypeId} {g : Option (Nat × Bool)} {α : Type} {val : α → Value} {φ : α → Prop} {its : α → List Item} (hx : get l x = some vx) (hd : Nat.ble (d + 1) N.n = true) (hb : zbu P f = true)
  (hc : ∀ w, Hp w0 F m w → Ct P f #[vx] w none' val φ its) :
  HO P ⟨some d, .call ⟨.value (.func f), #[.tmp x], tys⟩, ty, pos, after, g⟩ Q N l (Hp w0 F m) (α := { x : α // φ x }) (fun x => (d, val x.1) :: l) (fun x => Hp w0 F (its x.1 ++ m)) :=
 qdy (xs := [.tmp x]) (vs := [vx]) (by simpa [ze5, zhi, zes, Op.operands, Call.operands, zep, hx] using hd) hb (by simp [evs, evO, hx]) hc
theorem qr2 {P : Program} {w0 : World} {m : List Item} {l : zaq} {n : Nat} {fn : Func} (hf : fn.results = #[]) : HX (bodyPost P fn (zr9 w0 (.tuple #[]))) .normal ⟨n, [], none⟩ l (Hp w0 none' m) := qb0 hf fun _ hw => ⟨rfl, hw.fr⟩
theorem Ct.map {P : Program} {f : FuncId} {args : Array Value} {w : World} {Fc : Nat → Prop} {α α2 : Type} {val : α → Value} {φ : α → Prop} {its : α → List Item} {val2 : α2 → Value} {φ2 : α2 → Prop} {its2 : α2 → List Item} (h : Ct P f args w Fc val2 φ2 its2) (hm : ∀ x, φ2 x → ∃ y, val2 x = val y ∧ φ y ∧ its2 x = its y) : Ct P f args w Fc val φ its := by
 unfold Ct at *
 refine h.mono ?_
 rintro e w' ⟨x, he, hx, hi⟩
 obtain ⟨y, h1, h2, h3⟩ := hm x hx
 exact ⟨y, by rw [he, h1], h2, by rw [← h3]; exact hi⟩
end Go.Eng
namespace Go.Proofs.YtkkfifhaobjicaaGreatDoor
open Go.RowKit Go.Eng Go.Eng.Bm Go.Eng.Tr
set_option maxRecDepth 100000
set_option maxHeartbeats 40000000
theorem zej (k : Int) (w : World) : Pu Tryz.prog 36 #[.bool true, .int .i64 k] w (.tuple #[]) := by
 refine zbh [_, _] Tryz.func36 rfl rfl ?_
 simp only [zaa, Nat.reduceAdd]
 refine goA ?_
 exact qr2 rfl
theorem zmr {p : Prop} [Decidable p] (hp : p) (k : Int) (w : World) : Pu Tryz.prog 36 #[.bool (decide p), .int .i64 k] w (.tuple #[]) := by
 rw [decide_eq_true hp]
 exact zej k w
theorem qpt {b : Nat} {bs : Bys} {w : World} (h : (rdI b bs).prop w) : Rd w (some ⟨b, 0, none⟩) (zaf bs) := Rd.mk h.1
theorem zz3 (w : World) : Pu Tryz.prog 67 #[.int .i64 0] w (.tuple #[]) := by
 refine zbh [_] Tryz.func67 rfl rfl ?_
 simp only [zaa]
 refine goA ?_
 exact qr2 rfl
abbrev trC (c : Tc) (root : Int) : Eng.Item := pt c.t (.cells #[.pointer (some ⟨c.pb, 0, none⟩), .int .i64 (c.sh.kw : Int), .int .i64 (c.sh.vw : Int), .int .i64 root] 47 (0, 0))
def tmL (c : Tc) (root : Int) (s : Pg) : List Eng.Item := [trC c root, pgI s c.d, dkI c.d, tzI]
def tmI (c : Tc) (root : Int) (s : Pg) : Eng.Item := zg3 (tmL c root s)
theorem qdo (c : Tc) (root : Int) (s : Pg) : ∀ it ∈ tmL c root s, it.Stable none' := by
 intro it hm
 rcases hm with _ | ⟨_, hm⟩
 ·exact zac _ _ _
 ·exact zjr s c.d it hm
theorem zae (c : Tc) (root : Int) (s : Pg) : ∀ it ∈ [tmI c root s], it.Stable none' := by
 intro it hm
 rcases hm with _ | ⟨_, hm⟩
 ·exact zad _
 ·cases hm
theorem zhk {c : Tc} {root : Int} {s : Pg} {w w0 : World} {F : Nat → Prop} {m : List Eng.Item} (h : Hp w0 F (tmI c root s :: m) w) : Hp w0 F (tmL c root s ++ m) w := Hp.open1 h
theorem zfs {c : Tc} {root : Int} {s : Pg} {w w0 : World} {F : Nat → Prop} {m : List Eng.Item} (h : Hp w0 F (tmL c root s ++ m) w) : Hp w0 F (tmI c root s :: m) w := Hp.close1 (qdo c root s) h
theorem zms (n : Nd) (o : Po) : ∀ it ∈ ndI n o, it.Stable none' := by simp [ndI, zab]
theorem zcg (c : Tc) (root : Int) (s : Pg) (n : Nd) (o : Po) : ∀ it ∈ tmI c root s :: ndI n o, it.Stable none' := by
 intro it hm
 rcases hm with _ | ⟨_, hm⟩
 ·exact zad _
 ·exact zms n o it hm
theorem zcx (n : Nd) (o : Po) : zbx (ndO n o).toList = true := by
 rw [za5]
 intro v hv
 simp only [ndO, aJ, List.not_mem_nil, or_false] at hv
 rcases hv with rfl | rfl | rfl | rfl
 ·rfl
 ·exact zdj _ _
 ·exact zdj _ _
 ·exact zdj _ _
theorem qmr {s : Sh} (hs : ShB s) (n : Nd) (a : Pl) (hb : NdB n) (hm : zf1 s n) (w : World) (hr : NdR w n a) : Ct Tryz.prog 69 #[shV s, ndV n a] w none' (fun o : Option (Nat × Nat) => .tuple #[slV o 512, .int .i64 0]) (fun _ => True) (fun o => [own 5 1 o 512 (zaf (zcd n))]) :=
 (zr0 hs n a hb w hr).map fun x hx => by
  cases x with
  | none => simp [hm] at hx
  | some o => exact ⟨o, rfl, trivial, rfl⟩
theorem qjh {s : Sh} (hs : ShB s) (a : Option Addr) (m c : Nat) (bs : Bys) (hn : bs.length = m) (hz : m ≤ 100000) {n : Nd} (ht : zqc s bs = some n) (w : World) (hr : Rd w a (zaf bs)) : Ct Tryz.prog 102 #[shV s, .slice a m c] w none' (fun o : Po => .tuple #[.agg (ndO n o), .int .i64 0]) (fun _ => True) (fun o => ndI n o) :=
 (zyw hs a m c bs hn hz w hr).map fun x hx => by
  rw [ht] at hx
  cases x with
  | none => cases hx
  | some p =>
   obtain ⟨n', o⟩ := p
   cases hx
   exact ⟨o, rfl, trivial, rfl⟩
theorem qqh {l : zaq} {w0 : World} {F : Nat → Prop} {m : List Eng.Item} {ty : TypeId} {x : Operand} {t : Nat} {p q r z : Value} (hx : evO l x = some (.pointer (some ⟨t, 1, none⟩))) (hm : pt t (.cells #[p, q, r, z] 47 (0, 0)) ∈ m) : OV Tryz.prog (.load 45 x) ty l (Hp w0 F m) (.agg #[q, r]) :=
 zft (xs := [q, r]) (c := #[q, r]) hx rfl (fun w' hw' => by
  have h := za7 (cs := [p, q, r, z]) (hw'.get hm)
  have h2 := zfx (k := 2) (zg8 (k := 1) h)
  rw [aF] at h2
  exact h2) rfl
theorem zkl {c : Tc} {g : Sg} {s : Pg} (h : Tok c g s) (root at_ : Int) {n : Nd} (hl : zet c.sh c.N g at_ = .ok n) (w : World) (hw : ∀ it ∈ [tmI c root s], za1 it w) :
  Ct Tryz.prog 61 #[.pointer (some ⟨c.t, 0, none⟩), .int .i64 at_] w (zan [tmI c root s]) (fun x : Pg × Po => .agg (ndO n x.2)) (fun x => Tok c g x.1) (fun x => tmI c root x.1 :: ndI n x.2) := by
 obtain ⟨i, rfl, hi1, hi2, ht⟩ : ∃ i : Nat, at_ = (i : Int) ∧ 1 ≤ i ∧ i < c.N ∧ zqc c.sh (g.W i) = some n := by
  unfold zet at hl
  split at hl
  ·rename_i hc
   refine ⟨at_.toNat, oQ, oQ, oQ, ?_⟩
   split at hl
   ·rename_i ht; cases hl; exact ht
   ·cases hl
  ·cases hl
 obtain ⟨d, t, pb, sh, N, secs, note, V, B⟩ := c
 obtain rfl := h.b
 have hN2 : N ≤ 1024 := h.N2
 have hi2 : i < N := hi2
 have hlen := h.len hi1 hi2
 have hpg := h.pg hi1 hi2
 have hsn : s.n = N := h.st.hn
 refine zbb [_, _] _ Tryz.func61 rfl rfl hw (.cons (fun _ h => nomatch h) .nil) ?_
 simp only [zaa, Nat.reduceAdd]
 refine zlx (m' := tmL _ root s) (fun w h => zhk (m := []) h) ?_
 unfold tmL trC
 simp only at hpg hlen ⊢
 refine goA ?_
 refine zal rfl rfl fun b4 hb4 => ?_
 refine goA ?_
 refine lPu rfl (fun w1 hw1 => zt7 s d w1 (za1.of (hw1.item (pgI s d) sQ) (zco s d))) ?_
 rw [hsn]
 refine goA ?_
 refine lPu rfl (fun w1 hw1 => zmr oQ _ w1) ?_
 refine goA ?_
 refine za0 [2, 3, 0, 1, 4] rfl rfl ?_
 refine lCu [pgI s d, dkI d] rfl (zdc s d) (fun w1 hw1 hh1 ha1 => znj s d h.ok h.lives h.wait h.st.dead h.st.ok i oQ w1 hh1 ha1) fun ⟨b, _⟩ => ?_
 rw [hpg]
 dsimp only
 refine goA ?_
 refine lPu rfl (fun w1 hw1 => zz3 w1) ?_
 refine goA ?_
 refine l_w rfl (qqh rfl mm) ?_
 refine goA ?_
 refine ze7 rfl rfl kQ rfl (fun w1 hw1 => qjh (show ShB sh from h.sh) (some ⟨b, 0, none⟩) 512 512 (g.W i) hlen dQ ht w1 (qpt (hw1.item (rdI b (g.W i)) (.head _)).1)) fun o _ => ?_
 refine goA ?_
 refine zal rfl rfl fun b7 hb7 => ?_
 refine zaz rfl (zag (cs' := ndO n o) rfl rfl rfl rfl (zcx n o) rfl) fun _ => ?_
 refine goA ?_
 refine lPu rfl (fun w1 hw1 => zej _ w1) ?_
 refine goA ?_
 unfold ndI
 simp only [aE, aI]
 refine zaz rfl (zai (zu3 _ _ _ _ _ _ _ _ _) (zag (cs' := ndO n o) rfl rfl rfl rfl (zcx n o) rfl)) fun _ => ?_
 refine goA ?_
 refine zb3 (m' := tmI ⟨d, t, s.b, sh, N, secs, note, V, B⟩ root (zcn s d.D i) :: pt b4 (.cells (ndO n o) 101 (0, 0)) :: ndI n o) (fun w' hw' => zfs (hw'.pick [8, 6, 7, 9, 0, 2, 3, 4] rfl rfl)) ?_
 exact zbs (zcn s d.D i, o) rfl ⟨_, rfl, zar rfl (.tail _ (.head _))⟩ rfl (h.page hi2) (.cons_cons _ (.cons _ (.refl _))) (zcg _ _ _ _ _)
structure NdA (F : Nat → Prop) (a : Pl) : Prop where
 k : ∀ x : Addr, a.k.1 = some x → ¬ F x.block
 v : ∀ x : Addr, a.v.1 = some x → ¬ F x.block
 d : ∀ x : Addr, a.d.1 = some x → ¬ F x.block
theorem qgw {w w0 : World} {F : Nat → Prop} {m : List Eng.Item} {a : Option Addr} {xs : List Value} (h : Rd w0 a xs) (ha : ∀ x : Addr, a = some x → ¬ F x.block) (hw : Hp w0 F m w) : Rd w a xs := by
 rcases h with h | ⟨b, off, h1, h2⟩
 ·exact .inl h
 ·exact .inr ⟨b, off, h1, fun j u hu => hw.old (a := ⟨b, off + j, none⟩) (show ¬ F b from ha _ h1) (h2 j u hu)⟩
theorem NdR.out {w w0 : World} {F : Nat → Prop} {m : List Eng.Item} {n : Nd} {a : Pl} (h : NdR w0 n a) (ha : NdA F a) (hw : Hp w0 F m w) : NdR w n a := ⟨qgw h.k ha.k hw, qgw h.v ha.v hw, qgw h.d ha.d hw⟩
theorem zbv {w w0 : World} {F : Nat → Prop} {it : Eng.Item} {m : List Eng.Item} {e : TypeId} {o : Option (Nat × Nat)} {n : Nat} {xs : List Value} (h : Hp w0 F (it :: m) w) (hm : own e 1 o n xs ∈ m) : ∀ x : Addr, slA o = some x → ¬ zan [it] x.block := fun x hx ⟨y, hy, hk⟩ => by
 obtain rfl : y = it := by simpa using hy
 match o, hx with
 | some (b, c), hx =>
  cases hx
  exact (bL.1 h.apart).1 _ hm _ hk ⟨c, rfl⟩
theorem qdl {a : Option Addr} {r : Bool} {k : Nat} {x : Addr} (h : zrc a r k = some x) : ∃ y, a = some y ∧ y.block = x.block := by
 unfold zrc at h
 split at h
 ·exact ⟨x, h, rfl⟩
 ·cases a with
  | none => cases h
  | some y =>
   cases h
   exact ⟨y, rfl, by unfold Addr.add; split <;> rfl⟩
theorem save_ok' {c : Tc} {g g' : Sg} {s : Pg} (h : Tok c g s) (root : Int) (at_ : Nat) (n : Nd) (a : Pl) (hb : NdB n) (hl : zb4 c.sh c.N g at_ n = .ok g') (w : World) (hr : NdR w n a) (hA : NdA (zan [tmI c root s]) a) (hw : ∀ it ∈ [tmI c root s], za1 it w) :
  Ct Tryz.prog 41 #[.pointer (some ⟨c.t, 0, none⟩), .int .i64 (at_ : Int), ndV n a] w (zan [tmI c root s]) (fun _ : Pg => .tuple #[]) (fun s' => Tok c g' s') (fun s' => [tmI c root s']) := by
 obtain ⟨hm, hi1, hi2, rfl⟩ : zf1 c.sh n ∧ 1 ≤ at_ ∧ at_ < c.N ∧ { g with W := wr g.W at_ (zcd n) } = g' := by
  unfold zb4 at hl
  split at hl
  ·rename_i h1
   split at hl
   ·rename_i h2; cases hl; exact ⟨h1, h2.1, h2.2, rfl⟩
   ·cases hl
  ·cases hl
 obtain ⟨d, t, pb, sh, N, secs, note, V, B⟩ := c
 obtain rfl := h.b
 have hsh : ShB sh := h.sh
 have hPl := zv5 hsh.k1 hm
 have h' := h.save hi1 hi2 hPl
 have hN2 : N ≤ 1024 := h.N2
 have hi2 : at_ < N := hi2
 have hsn : s.n = N := h.st.hn
 refine zbb [_, _, _] _ Tryz.func41 rfl rfl hw (.cons (fun _ h => nomatch h) .nil) ?_
 simp only [zaa, Nat.reduceAdd]
 unfold ndV
 refine zlx (m' := tmL _ root s) (fun w h => zhk (m := []) h) ?_
 unfold tmL trC
 simp only at hPl ⊢
 refine goA ?_
 refine zbt rfl rfl fun b5 hb5 => ?_
 refine goA ?_
 refine zao [0, 1, 2, 3, 4] 11 rfl rfl kQ ?_
 (repeat first | refine dAv [3] rfl rfl rfl ?_ | refine dno [3] rfl rfl rfl ?_ | refine dT [3] rfl rfl rfl rfl ?_ | refine dF [3] rfl rfl rfl rfl ?_)
 refine goV rfl rfl (qqh rfl mm) ?_
 refine goE ?_
 refine zaw 5 ⟨kQ, dQ⟩ rfl rfl (qdy rfl kQ rfl (fun w1 hw1 => qmr hsh n a hb hm w1 (hr.out hA hw1))) (fun _ _ h => goH h) fun ⟨o, _⟩ => ?_
 refine goX ?_
 refine lPu rfl (fun w1 hw1 => zej _ w1) ?_
 refine zd4 (fun w hw => zas (hw.item (own 5 1 o 512 (zaf (zcd n))) sQ).1) fun ⟨hsl, _⟩ => ?_
 rw [hsl]
 refine goA ?_
 refine za0 [3, 0, 1, 2, 4, 5] rfl rfl ?_
 refine lCu [pgI s d] rfl (zc2 s d) (fun w1 hw1 hh1 ha1 => zy4 s d (at_ : Nat) (zcd n) hPl (slA o) (slC o) h.st.dead oQ w1 hh1 (zbl (hw1.item (own 5 1 o 512 (zaf (zcd n))) (.tail _ (.head _))).1) (fun b off e => zbv hw1 (.head _) ⟨b, off, none⟩ e)) fun ⟨_, _⟩ => ?_
 have hcc : ¬ ((at_ : Int) < 1 ∨ (s.n : Int) ≤ (at_ : Int)) := oQ
 rw [if_neg hcc, if_neg hcc, bT]
 dsimp only
 refine goA ?_
 refine lPu rfl (fun w1 hw1 => zz3 w1) ?_
 refine goA ?_
 refine zb3 (m' := [tmI ⟨d, t, s.b, sh, N, secs, note, V, B⟩ root { s with C := zeu s.C at_ (zcd n) }]) (fun w' hw' => zfs (m := []) (hw'.pick [3, 0, 4, 5] rfl rfl)) ?_
 exact zl6 { s with C := zeu s.C at_ (zcd n) } rfl rfl h' (.refl _) (zae _ _ _)
theorem zt5 {c : Tc} {g g' : Sg} {s : Pg} (h : Tok c g s) (root : Int) {q : Nat} (hl : ziq c.N g = .ok (q, g')) (w : World) (hw : ∀ it ∈ [tmI c root s], za1 it w) :
  Ct Tryz.prog 42 #[.pointer (some ⟨c.t, 0, none⟩)] w (zan [tmI c root s]) (fun _ : Pg => .int .i64 (q : Int)) (fun s' => Tok c g' s') (fun s' => [tmI c root s']) := by
 obtain ⟨h', hq1, hq2, hq3, hq4⟩ := h.alloc hl
 obtain ⟨d, t, pb, sh, N, secs, note, V, B⟩ := c
 obtain rfl := h.b
 refine zbb [_] _ Tryz.func42 rfl rfl hw (.cons (fun _ h => nomatch h) .nil) ?_
 simp only [zaa]
 refine zlx (m' := tmL _ root s) (fun w h => zhk (m := []) h) ?_
 unfold tmL trC
 simp only at h' ⊢
 refine goA ?_
 refine za0 [1, 2, 3, 0] rfl rfl ?_
 refine lCu [pgI s d, dkI d, tzI] rfl (zjr s d) (fun w1 hw1 hh1 ha1 => zwf s d h.ok h.lives h.wait h.st.dead h.st.ok g.S h.hS (by rw [h.st.hn]; exact h.S.2.1) h.S.2.2 q hq1 hq2 hq3 w1 hh1 ha1) fun ⟨_, _⟩ => ?_
 refine goA ?_
 refine lPu rfl (fun w1 hw1 => zz3 w1) ?_
 refine goA ?_
 refine zb3 (m' := [tmI ⟨d, t, s.b, sh, N, secs, note, V, B⟩ root (zrg s d.D g.S q)]) (fun w' hw' => zfs (m := []) (hw'.pick [3, 0, 1, 2] rfl rfl)) ?_
 exact zbs (zrg s d.D g.S q) rfl rfl rfl h' (.refl _) (zae _ _ _)
theorem zta {c : Tc} {g g' : Sg} {s : Pg} (h : Tok c g s) (root : Int) (at_ : Nat) (hl : zf2 c.N g at_ = .ok g') (w : World) (hw : ∀ it ∈ [tmI c root s], za1 it w) :
  Ct Tryz.prog 40 #[.pointer (some ⟨c.t, 0, none⟩), .int .i64 (at_ : Int)] w (zan [tmI c root s]) (fun _ : Pg => .tuple #[]) (fun s' => Tok c g' s') (fun s' => [tmI c root s']) := by
 obtain ⟨h', hq1, hq2⟩ := h.drop hl
 obtain ⟨d, t, pb, sh, N, secs, note, V, B⟩ := c
 obtain rfl := h.b
 refine zbb [_, _] _ Tryz.func40 rfl rfl hw (.cons (fun _ h => nomatch h) .nil) ?_
 simp only [zaa, Nat.reduceAdd]
 refine zlx (m' := tmL _ root s) (fun w h => zhk (m := []) h) ?_
 unfold tmL trC
 simp only at h' ⊢
 refine goA ?_
 refine za0 [1, 2, 3, 0] rfl rfl ?_
 refine lCu [pgI s d, dkI d] rfl (zdc s d) (fun w1 hw1 hh1 ha1 => zwg s d h.ok h.lives h.wait h.st.dead h.st.ok (by rw [h.st.hn]; exact h.N1) g.S h.hS (by rw [h.st.hn]; exact h.S.2.1) h.S.2.2 at_ hq1 w1 hh1 ha1) fun ⟨_, _⟩ => ?_
 rw [if_neg hq2, if_neg hq2]
 refine goA ?_
 refine lPu rfl (fun w1 hw1 => zz3 w1) ?_
 refine goA ?_
 refine zb3 (m' := [tmI ⟨d, t, s.b, sh, N, secs, note, V, B⟩ root (qcd s d.D g.S at_ false)]) (fun w' hw' => zfs (m := []) (hw'.pick [3, 0, 1, 2] rfl rfl)) ?_
 exact zl6 (qcd s d.D g.S at_ false) rfl rfl h' (.refl _) (zae _ _ _)
end Go.Proofs.YtkkfifhaobjicaaGreatDoor
namespace Go.Proofs.YtkkfifhaobjicaaGreatDoor
open Go.RowKit Go.Eng Go.Eng.Tr
set_option maxRecDepth 100000
set_option maxHeartbeats 40000000
theorem zia (o : Option (Nat × Nat)) (n i : Nat) (xs : List Value) (x : Value) (vb : Nat) (h1 : zbx xs = true) (h1x : zbx [x] = true) (hi : i ≤ n) (hn : n ≤ 1000000) (w : World) (hw : ∀ it ∈ [own 9 1 o n xs, own 9 1 (some (vb, 1)) 1 [x]], za1 it w) (ha : [own 9 1 o n xs, own 9 1 (some (vb, 1)) 1 [x]].Pairwise Eng.Item.Apart) :
  Ct Tryz.prog 70 #[slV o n, .int .i64 (i : Nat), .slice (some ⟨vb, 0, none⟩) 1 1] w (zan [own 9 1 o n xs, own 9 1 (some (vb, 1)) 1 [x]]) (fun o' : Option (Nat × Nat) => slV o' (n + 1)) (fun _ => True) (fun o' => [own 9 1 o' (n + 1) (ins xs i x)]) := by
 have hxl : xs.length = n := by have := (hw _ (.head _)).1.1; rwa [bK] at this
 obtain ⟨hv, hnc⟩ := zas (hw _ (.head _)).1
 refine zbb [_, _, _] _ Tryz.func70 rfl rfl hw ha ?_
 by_cases hin : i = n
 ·subst hin
  have hins : ins xs i x = xs ++ [x] := by unfold ins; rw [cA oQ, cP oQ]
  rw [hins]
  simp only [zaa, Nat.reduceAdd]
  rw [hv]
  refine goA ?_
  rw [← hv]
  refine zaz rfl (zdh (news := [x]) rfl rfl rfl rfl rfl rfl rfl h1x oQ (fun w' hw' j v hj => by rw [zc9, aF]; exact zbm (hw'.item _ (.tail _ (.head _))).1 j v hj)) fun o' => ?_
  refine goA ?_
  exact zbs o' rfl rfl rfl trivial (.cons_cons _ (aD _)) (by simp [zab])
 ·have hin : i < n := oQ
  obtain ⟨b, c, rfl⟩ : ∃ b c, o = some (b, c) := by
   cases o with
   | none => exact absurd (hw _ (.head _)).1.2 (by show ¬ (n = 0); omega)
   | some p => exact ⟨p.1, p.2, rfl⟩
  have hcm : c ≤ maxLen := (hw _ (.head _)).1.2.2.1
  unfold maxLen at hcm
  have hnc : n ≤ c := hnc
  have hne : vb ≠ b := fun e => (bL.1 ha).1 _ (.head _) b ⟨c, rfl⟩ ⟨1, by rw [e]⟩
  have hsplit : xs.take i ++ xs.drop i = xs := bE i xs
  have hAl : (xs.take i).length = i := by rw [aO]; omega
  have hBl : (xs.drop i).length = n - i := by rw [aU]; omega
  have hB0 : xs.drop i ≠ [] := fun h => by rw [h] at hBl; simp at hBl; omega
  have h1B : zbx (xs.drop i) = true := za5.2 fun v hv => za5.1 h1 v (bZ hv)
  simp only [zaa, Nat.reduceAdd]
  simp only [slV]
  refine qqw (fun w hw => hw.cut) fun zs hz => ?_
  have hat : ∀ (j : Nat) v, (xs.drop i)[j]? = some v → (xs ++ zs)[i + j]? = some v := fun j v h => by
   rw [eA] at h
   rw [cE (aM.1 h).1]; exact h
  by_cases hroom : n + 1 ≤ c
  ·obtain ⟨z, zs', rfl⟩ := gV (show zs ≠ [] from fun h => by rw [h] at hz; simp at hz; omega)
   refine goA ?_
   rw [zb7 oQ]
   refine l_w rfl (qle Tryz.func110 kQ kQ kQ (E := Extern.SlicesOverlaps.overlaps #[37, 37] #[4]) kQ rfl fun w' hw' => by rw [aF]; exact zj9 rfl rfl (hw'.item _ (.tail _ (.head _))).1 (hw'.get (.head _)) hne sQ) ?_
   refine goA ?_
   refine zao [1] 9 rfl rfl kQ ?_
   refine goE ?_
   rw [zb7 oQ, zb7 oQ]
   refine zaw 8 ⟨kQ, dQ⟩ rfl rfl (zh4 (cs := xs.drop i) (cur := xs ++ z :: zs') rfl rfl rfl rfl rfl (by rw [hBl]; omega) (fun w' hw' => by rw [aF, bK]; exact zsd (hw'.get (.head _)) hat) (fun h => nomatch h) (by rw [hBl]; simp; omega) h1B) (fun _ _ h => goH h) fun _ => ?_
   refine zei kQ ?_
   refine goA ?_
   rw [zb7 oQ]
   refine zaz rfl (zh4 (cs := [x]) rfl rfl rfl rfl rfl (by simp; omega) (fun w' hw' => .inr ⟨vb, 0, rfl, fun j v hj => by rw [aF]; exact zbm (hw'.item (own 9 1 (some (vb, 1)) 1 [x]) (.tail _ (.head _))).1 j v hj⟩) (fun h => nomatch h) (by rw [zgj (by rw [hBl]; simp; omega)]; simp; omega) h1x) fun _ => ?_
   rw [show put (put (xs ++ z :: zs') (0 + (i + 1) * 1) (xs.drop i)) (0 + i * 1) [x] = ins xs i x ++ zs' by
    have := zwj (A := xs.take i) (B := xs.drop i) (zs := zs') (z := z) (x := x) hB0
    rw [hsplit, hAl] at this
    rw [aF, aF, bK, bK, this]
    rfl]
   refine goA ?_
   refine zb3 (fun w hw => hw.glue (n := n + 1) (c := c) (by unfold ins; simp; omega) (by simp at hz; omega) hroom (by unfold maxLen; omega)) ?_
   exact zbs (some (b, c)) rfl rfl rfl trivial (.cons_cons _ (aD _)) (by simp [zab])
  ·obtain rfl : c = n := oQ
   refine goA ?_
   refine zaz rfl (qap (olds := xs.take i) (z := .string ⟨#[]⟩) rfl rfl rfl rfl rfl rfl rfl oQ oQ oQ hAl (fun h => nomatch h) (fun w' hw' => zsd (hw'.get (.head _)) fun j v h => by
    have hj := (aM.1 h).1
    rw [List.getElem?_take_of_lt oQ] at h
    rw [aF, cE oQ]; exact h)) fun ⟨⟨b2, c2⟩, hb2, hc2⟩ => ?_
   simp only at hc2 ⊢
   rw [show i + (c + 1 - i) = c + 1 by omega] at hc2 ⊢
   refine zd4 (fun w hw => (hw.item _ (.head _)).1.2.2.1) fun hcm2 => ?_
   refine qsb (fun w hw => hw.cut) fun zs2 hz2 => ?_
   refine goA ?_
   rw [zb7 oQ]
   refine zaz rfl (zh4 (cs := [x]) rfl rfl rfl rfl rfl (by simp; omega) (fun w' hw' => .inr ⟨vb, 0, rfl, fun j v hj => by rw [aF]; exact zbm (hw'.item (own 9 1 (some (vb, 1)) 1 [x]) (.tail _ (.tail _ (.head _)))).1 j v hj⟩) (fun h => nomatch h) (by simp; omega) h1x) fun _ => ?_
   refine goA ?_
   refine zao [1, 2] 9 rfl rfl kQ ?_
   refine goE ?_
   rw [zb7 oQ, zb7 oQ]
   refine zaw 8 ⟨kQ, dQ⟩ rfl rfl (zh4 (cs := xs.drop i) rfl rfl rfl rfl rfl (by rw [hBl]; omega) (fun w' hw' => by rw [aF, bK]; exact zsd (hw'.get (.tail _ (.head _))) hat) (fun h => nomatch h) (by rw [hBl, zgj (by simp; omega)]; simp; omega) h1B) (fun _ _ h => goH h) fun _ => ?_
   refine zei kQ ?_
   refine goA ?_
   rw [show put (put (xs.take i ++ List.replicate (c + 1 - i) (.string ⟨#[]⟩) ++ zs2) (0 + i * 1) [x]) (0 + (i + 1) * 1) (xs.drop i) = ins xs i x ++ zs2 by
    have := qay (A := xs.take i) (B := xs.drop i) (Z := List.replicate (c + 1 - i) (.string ⟨#[]⟩)) (zs := zs2) (x := x) (by rw [hBl]; simp; omega)
    rw [hAl] at this
    rw [aF, aF, bK, bK, this]
    rfl]
   refine zb3 (fun w hw => hw.glue (n := c + 1) (c := c2) (by unfold ins; simp; omega) hz2 hc2 hcm2) ?_
   exact zbs (some (b2, c2)) rfl rfl rfl trivial (.cons_cons _ (aD _)) (by simp [zab])
theorem ztt (o : Option (Nat × Nat)) (n i : Nat) (xs : List Value) (x : Value) (vb : Nat) (h1 : zbx xs = true) (h1x : zbx [x] = true) (hi : i ≤ n) (hn : n ≤ 1000000) (w : World) (hw : ∀ it ∈ [own 3 1 o n xs, own 3 1 (some (vb, 1)) 1 [x]], za1 it w) (ha : [own 3 1 o n xs, own 3 1 (some (vb, 1)) 1 [x]].Pairwise Eng.Item.Apart) :
  Ct Tryz.prog 72 #[slV o n, .int .i64 (i : Nat), .slice (some ⟨vb, 0, none⟩) 1 1] w (zan [own 3 1 o n xs, own 3 1 (some (vb, 1)) 1 [x]]) (fun o' : Option (Nat × Nat) => slV o' (n + 1)) (fun _ => True) (fun o' => [own 3 1 o' (n + 1) (ins xs i x)]) := by
 have hxl : xs.length = n := by have := (hw _ (.head _)).1.1; rwa [bK] at this
 obtain ⟨hv, hnc⟩ := zas (hw _ (.head _)).1
 refine zbb [_, _, _] _ Tryz.func72 rfl rfl hw ha ?_
 by_cases hin : i = n
 ·subst hin
  have hins : ins xs i x = xs ++ [x] := by unfold ins; rw [cA oQ, cP oQ]
  rw [hins]
  simp only [zaa, Nat.reduceAdd]
  rw [hv]
  refine goA ?_
  rw [← hv]
  refine zaz rfl (zdh (news := [x]) rfl rfl rfl rfl rfl rfl rfl h1x oQ (fun w' hw' j v hj => by rw [zc9, aF]; exact zbm (hw'.item _ (.tail _ (.head _))).1 j v hj)) fun o' => ?_
  refine goA ?_
  exact zbs o' rfl rfl rfl trivial (.cons_cons _ (aD _)) (by simp [zab])
 ·have hin : i < n := oQ
  obtain ⟨b, c, rfl⟩ : ∃ b c, o = some (b, c) := by
   cases o with
   | none => exact absurd (hw _ (.head _)).1.2 (by show ¬ (n = 0); omega)
   | some p => exact ⟨p.1, p.2, rfl⟩
  have hcm : c ≤ maxLen := (hw _ (.head _)).1.2.2.1
  unfold maxLen at hcm
  have hnc : n ≤ c := hnc
  have hne : vb ≠ b := fun e => (bL.1 ha).1 _ (.head _) b ⟨c, rfl⟩ ⟨1, by rw [e]⟩
  have hsplit : xs.take i ++ xs.drop i = xs := bE i xs
  have hAl : (xs.take i).length = i := by rw [aO]; omega
  have hBl : (xs.drop i).length = n - i := by rw [aU]; omega
  have hB0 : xs.drop i ≠ [] := fun h => by rw [h] at hBl; simp at hBl; omega
  have h1B : zbx (xs.drop i) = true := za5.2 fun v hv => za5.1 h1 v (bZ hv)
  simp only [zaa, Nat.reduceAdd]
  simp only [slV]
  refine qqw (fun w hw => hw.cut) fun zs hz => ?_
  have hat : ∀ (j : Nat) v, (xs.drop i)[j]? = some v → (xs ++ zs)[i + j]? = some v := fun j v h => by
   rw [eA] at h
   rw [cE (aM.1 h).1]; exact h
  by_cases hroom : n + 1 ≤ c
  ·obtain ⟨z, zs', rfl⟩ := gV (show zs ≠ [] from fun h => by rw [h] at hz; simp at hz; omega)
   refine goA ?_
   rw [zb7 oQ]
   refine l_w rfl (qle Tryz.func112 kQ kQ kQ (E := Extern.SlicesOverlaps.overlaps #[99, 99] #[4]) kQ rfl fun w' hw' => by rw [aF]; exact zj9 rfl rfl (hw'.item _ (.tail _ (.head _))).1 (hw'.get (.head _)) hne sQ) ?_
   refine goA ?_
   refine zao [1] 9 rfl rfl kQ ?_
   refine goE ?_
   rw [zb7 oQ, zb7 oQ]
   refine zaw 8 ⟨kQ, dQ⟩ rfl rfl (zh4 (cs := xs.drop i) (cur := xs ++ z :: zs') rfl rfl rfl rfl rfl (by rw [hBl]; omega) (fun w' hw' => by rw [aF, bK]; exact zsd (hw'.get (.head _)) hat) (fun h => nomatch h) (by rw [hBl]; simp; omega) h1B) (fun _ _ h => goH h) fun _ => ?_
   refine zei kQ ?_
   refine goA ?_
   rw [zb7 oQ]
   refine zaz rfl (zh4 (cs := [x]) rfl rfl rfl rfl rfl (by simp; omega) (fun w' hw' => .inr ⟨vb, 0, rfl, fun j v hj => by rw [aF]; exact zbm (hw'.item (own 3 1 (some (vb, 1)) 1 [x]) (.tail _ (.head _))).1 j v hj⟩) (fun h => nomatch h) (by rw [zgj (by rw [hBl]; simp; omega)]; simp; omega) h1x) fun _ => ?_
   rw [show put (put (xs ++ z :: zs') (0 + (i + 1) * 1) (xs.drop i)) (0 + i * 1) [x] = ins xs i x ++ zs' by
    have := zwj (A := xs.take i) (B := xs.drop i) (zs := zs') (z := z) (x := x) hB0
    rw [hsplit, hAl] at this
    rw [aF, aF, bK, bK, this]
    rfl]
   refine goA ?_
   refine zb3 (fun w hw => hw.glue (n := n + 1) (c := c) (by unfold ins; simp; omega) (by simp at hz; omega) hroom (by unfold maxLen; omega)) ?_
   exact zbs (some (b, c)) rfl rfl rfl trivial (.cons_cons _ (aD _)) (by simp [zab])
  ·obtain rfl : c = n := oQ
   refine goA ?_
   refine zaz rfl (qap (olds := xs.take i) (z := .int .i64 0) rfl rfl rfl rfl rfl rfl rfl oQ oQ oQ hAl (fun h => nomatch h) (fun w' hw' => zsd (hw'.get (.head _)) fun j v h => by
    have hj := (aM.1 h).1
    rw [List.getElem?_take_of_lt oQ] at h
    rw [aF, cE oQ]; exact h)) fun ⟨⟨b2, c2⟩, hb2, hc2⟩ => ?_
   simp only at hc2 ⊢
   rw [show i + (c + 1 - i) = c + 1 by omega] at hc2 ⊢
   refine zd4 (fun w hw => (hw.item _ (.head _)).1.2.2.1) fun hcm2 => ?_
   refine qsb (fun w hw => hw.cut) fun zs2 hz2 => ?_
   refine goA ?_
   rw [zb7 oQ]
   refine zaz rfl (zh4 (cs := [x]) rfl rfl rfl rfl rfl (by simp; omega) (fun w' hw' => .inr ⟨vb, 0, rfl, fun j v hj => by rw [aF]; exact zbm (hw'.item (own 3 1 (some (vb, 1)) 1 [x]) (.tail _ (.tail _ (.head _)))).1 j v hj⟩) (fun h => nomatch h) (by simp; omega) h1x) fun _ => ?_
   refine goA ?_
   refine zao [1, 2] 9 rfl rfl kQ ?_
   refine goE ?_
   rw [zb7 oQ, zb7 oQ]
   refine zaw 8 ⟨kQ, dQ⟩ rfl rfl (zh4 (cs := xs.drop i) rfl rfl rfl rfl rfl (by rw [hBl]; omega) (fun w' hw' => by rw [aF, bK]; exact zsd (hw'.get (.tail _ (.head _))) hat) (fun h => nomatch h) (by rw [hBl, zgj (by simp; omega)]; simp; omega) h1B) (fun _ _ h => goH h) fun _ => ?_
   refine zei kQ ?_
   refine goA ?_
   rw [show put (put (xs.take i ++ List.replicate (c + 1 - i) (.int .i64 0) ++ zs2) (0 + i * 1) [x]) (0 + (i + 1) * 1) (xs.drop i) = ins xs i x ++ zs2 by
    have := qay (A := xs.take i) (B := xs.drop i) (Z := List.replicate (c + 1 - i) (.int .i64 0)) (zs := zs2) (x := x) (by rw [hBl]; simp; omega)
    rw [hAl] at this
    rw [aF, aF, bK, bK, this]
    rfl]
   refine zb3 (fun w hw => hw.glue (n := c + 1) (c := c2) (by unfold ins; simp; omega) hz2 hc2 hcm2) ?_
   exact zbs (some (b2, c2)) rfl rfl rfl trivial (.cons_cons _ (aD _)) (by simp [zab])
theorem zh9 (b c n i : Nat) (xs : List Value) (h1 : zbx xs = true) (hi : i < n) (hn : n ≤ 1000000) (w : World) (hw : ∀ it ∈ [own 9 1 (some (b, c)) n xs], za1 it w) :
  Ct Tryz.prog 64 #[.slice (some ⟨b, 0, none⟩) n c, .int .i64 (i : Nat), .int .i64 ((i + 1 : Nat) : Int)] w (zan [own 9 1 (some (b, c)) n xs]) (fun _ : Unit => .slice (some ⟨b, 0, none⟩) (n - 1) c) (fun _ => True) (fun _ => [own 9 1 (some (b, c)) (n - 1) (xs.eraseIdx i)]) := by
 have hxl : xs.length = n := by have := (hw _ (.head _)).1.1; rwa [bK] at this
 have hnc : n ≤ c := (hw _ (.head _)).1.2.1
 have hcm : c ≤ maxLen := (hw _ (.head _)).1.2.2.1
 have hcm' := hcm
 unfold maxLen at hcm'
 refine zbb [_, _, _] _ Tryz.func64 rfl rfl hw (.cons (fun _ h => nomatch h) .nil) ?_
 have hBl : (xs.drop (i + 1)).length = n - (i + 1) := by rw [aU]; omega
 have h1B : zbx (xs.drop (i + 1)) = true := za5.2 fun v hv => za5.1 h1 v (bZ hv)
 simp only [zaa, Nat.reduceAdd]
 refine qqw (fun w hw => hw.cut) fun zs hz => ?_
 have hat : ∀ (j : Nat) v, (xs.drop (i + 1))[j]? = some v → (xs ++ zs)[i + 1 + j]? = some v := fun j v h => by
  rw [eA] at h
  rw [cE (aM.1 h).1]; exact h
 have herase : xs.eraseIdx i = xs.take i ++ xs.drop (i + 1) := gB xs i
 refine goA ?_
 refine l_w rfl (qqf rfl rfl rfl rfl rfl rfl ⟨oQ, oQ, oQ⟩) ?_
 refine goA ?_
 refine zao [] 8 rfl rfl kQ ?_
 refine goE ?_
 obtain ⟨a, hae, hac⟩ : ∃ a, zrc (some (⟨b, 0, none⟩ : Addr)) (decide (c = i + 1)) ((i + 1) * 1) = some a ∧ ∀ w : World, w.heap[b]? = some (.cells (xs ++ zs).toArray 9 (0, 0)) → ∀ (j : Nat) (v : Value), (xs.drop (i + 1))[j]? = some v → w.cell? (a.add j) = some v := by
  by_cases hc : c = i + 1
  ·refine ⟨_, by rw [decide_eq_true hc]; rfl, fun w' _ j v hj => ?_⟩
   have := (aM.1 hj).1
   omega
  ·refine ⟨⟨b, i + 1, none⟩, by rw [zb7 hc, aF, bK], fun w' hw' j v hj => ?_⟩
   rw [zc9]
   have := za7 hw' (i + 1 + j) v (hat j v hj)
   rwa [aF] at this
 rw [hae]
 refine zaw 6 ⟨kQ, dQ⟩ rfl rfl (qf6 (news := xs.drop (i + 1)) rfl rfl rfl rfl rfl hBl h1B oQ (by simp; omega) (fun w' hw' => hac w' (hw'.get (.head _)))) (fun _ _ h => goH h) fun _ => ?_
 refine goE ?_
 refine zei kQ ?_
 rw [show i + (n - (i + 1)) = n - 1 by omega]
 refine goA ?_
 rw [zb7 oQ]
 refine zaz rfl (qaq (z := .string ⟨#[]⟩) rfl rfl rfl rfl rfl rfl oQ (by rw [zgj (by rw [hBl]; simp; omega)]; simp; omega)) fun _ => ?_
 obtain ⟨y, hy⟩ : ∃ y, xs = xs.take i ++ y :: xs.drop (i + 1) := ⟨xs[i]'oQ, by rw [← bY, bE]⟩
 have hAl : (xs.take i).length = i := by rw [aO]; omega
 rw [show put (put (xs ++ zs) i (xs.drop (i + 1))) (0 + (n - 1) * 1) (List.replicate (n - (n - 1)) (.string ⟨#[]⟩)) = xs.eraseIdx i ++ (.string ⟨#[]⟩) :: zs by
  have := qgu (A := xs.take i) (B := xs.drop (i + 1)) (zs := zs) (y := y) (z := .string ⟨#[]⟩)
  rw [← hy, hAl, hBl] at this
  rw [show n - (n - 1) = 1 by omega, aF, bK, show n - 1 = i + (n - (i + 1)) by omega, herase]
  exact this]
 refine goA ?_
 refine zb3 (fun w hw => hw.glue (n := n - 1) (c := c) (by rw [eB oQ]; omega) (by simp; omega) oQ hcm) ?_
 exact zbs () rfl rfl rfl trivial (.cons_cons _ (aD _)) (by simp [zab])
theorem zts (b c n i : Nat) (xs : List Value) (h1 : zbx xs = true) (hi : i < n) (hn : n ≤ 1000000) (w : World) (hw : ∀ it ∈ [own 3 1 (some (b, c)) n xs], za1 it w) :
  Ct Tryz.prog 107 #[.slice (some ⟨b, 0, none⟩) n c, .int .i64 (i : Nat), .int .i64 ((i + 1 : Nat) : Int)] w (zan [own 3 1 (some (b, c)) n xs]) (fun _ : Unit => .slice (some ⟨b, 0, none⟩) (n - 1) c) (fun _ => True) (fun _ => [own 3 1 (some (b, c)) (n - 1) (xs.eraseIdx i)]) := by
 have hxl : xs.length = n := by have := (hw _ (.head _)).1.1; rwa [bK] at this
 have hnc : n ≤ c := (hw _ (.head _)).1.2.1
 have hcm : c ≤ maxLen := (hw _ (.head _)).1.2.2.1
 have hcm' := hcm
 unfold maxLen at hcm'
 refine zbb [_, _, _] _ Tryz.func107 rfl rfl hw (.cons (fun _ h => nomatch h) .nil) ?_
 have hBl : (xs.drop (i + 1)).length = n - (i + 1) := by rw [aU]; omega
 have h1B : zbx (xs.drop (i + 1)) = true := za5.2 fun v hv => za5.1 h1 v (bZ hv)
 simp only [zaa, Nat.reduceAdd]
 refine qqw (fun w hw => hw.cut) fun zs hz => ?_
 have hat : ∀ (j : Nat) v, (xs.drop (i + 1))[j]? = some v → (xs ++ zs)[i + 1 + j]? = some v := fun j v h => by
  rw [eA] at h
  rw [cE (aM.1 h).1]; exact h
 have herase : xs.eraseIdx i = xs.take i ++ xs.drop (i + 1) := gB xs i
 refine goA ?_
 refine l_w rfl (qqf rfl rfl rfl rfl rfl rfl ⟨oQ, oQ, oQ⟩) ?_
 refine goA ?_
 refine zao [] 8 rfl rfl kQ ?_
 refine goE ?_
 obtain ⟨a, hae, hac⟩ : ∃ a, zrc (some (⟨b, 0, none⟩ : Addr)) (decide (c = i + 1)) ((i + 1) * 1) = some a ∧ ∀ w : World, w.heap[b]? = some (.cells (xs ++ zs).toArray 3 (0, 0)) → ∀ (j : Nat) (v : Value), (xs.drop (i + 1))[j]? = some v → w.cell? (a.add j) = some v := by
  by_cases hc : c = i + 1
  ·refine ⟨_, by rw [decide_eq_true hc]; rfl, fun w' _ j v hj => ?_⟩
   have := (aM.1 hj).1
   omega
  ·refine ⟨⟨b, i + 1, none⟩, by rw [zb7 hc, aF, bK], fun w' hw' j v hj => ?_⟩
   rw [zc9]
   have := za7 hw' (i + 1 + j) v (hat j v hj)
   rwa [aF] at this
 rw [hae]
 refine zaw 6 ⟨kQ, dQ⟩ rfl rfl (qf6 (news := xs.drop (i + 1)) rfl rfl rfl rfl rfl hBl h1B oQ (by simp; omega) (fun w' hw' => hac w' (hw'.get (.head _)))) (fun _ _ h => goH h) fun _ => ?_
 refine goE ?_
 refine zei kQ ?_
 rw [show i + (n - (i + 1)) = n - 1 by omega]
 refine goA ?_
 rw [zb7 oQ]
 refine zaz rfl (qaq (z := .int .i64 0) rfl rfl rfl rfl rfl rfl oQ (by rw [zgj (by rw [hBl]; simp; omega)]; simp; omega)) fun _ => ?_
 obtain ⟨y, hy⟩ : ∃ y, xs = xs.take i ++ y :: xs.drop (i + 1) := ⟨xs[i]'oQ, by rw [← bY, bE]⟩
 have hAl : (xs.take i).length = i := by rw [aO]; omega
 rw [show put (put (xs ++ zs) i (xs.drop (i + 1))) (0 + (n - 1) * 1) (List.replicate (n - (n - 1)) (.int .i64 0)) = xs.eraseIdx i ++ (.int .i64 0) :: zs by
  have := qgu (A := xs.take i) (B := xs.drop (i + 1)) (zs := zs) (y := y) (z := .int .i64 0)
  rw [← hy, hAl, hBl] at this
  rw [show n - (n - 1) = 1 by omega, aF, bK, show n - 1 = i + (n - (i + 1)) by omega, herase]
  exact this]
 refine goA ?_
 refine zb3 (fun w hw => hw.glue (n := n - 1) (c := c) (by rw [eB oQ]; omega) (by simp; omega) oQ hcm) ?_
 exact zbs () rfl rfl rfl trivial (.cons_cons _ (aD _)) (by simp [zab])
end Go.Proofs.YtkkfifhaobjicaaGreatDoor
