/- package pack, the opener: what is taken of bytes. -/
/- package pack, the opener: a name. -/
/- package pack: numbers of eight bytes. -/
/- package crc: the checksum of bytes; its table as it is laid. -/
/- package disk: what is read. -/
/- package disk: what is written, flushed, and lost. -/
/- package disk: acts, writes, flushes. -/
/- package disk: Write, Fuse, Crash, Start, New. -/
/- package sheet: how many sheets; a sheet's sector. -/
/- package sheet: the sheet of a sector. -/
/- package wal: a head of the log as bytes. -/
/- package wal: the head of bytes. -/
import Derived.Test.YtkkfifhaobjicaaGreatDoorHc05
import Derived.Test.YtkkfifhaobjicaaGreatDoorHc01
namespace Go.Proofs.YtkkfifhaobjicaaGreatDoor
open Go.RowKit Go.Eng
set_option maxRecDepth 100000
set_option maxHeartbeats 40000000
abbrev opJ (b : Nat) (a : Option Addr) (n c e : Nat) : Eng.Item := pt b (.cells #[.slice a n c, .int .i64 e] 207 (0, 0))
def opI (b : Nat) (a : Option Addr) (c : Nat) (st : Opn) : Eng.Item := opJ b a st.1.length c (if st.2 then 3 else 0)
theorem zll (b : Nat) (a : Option Addr) (c : Nat) (r : Bys) : opI b a c (r, false) = opJ b a r.length c 0 := rfl
theorem zmx (b : Nat) (a : Option Addr) (c : Nat) (r : Bys) : opI b a c (r, true) = opJ b a r.length c 3 := rfl
theorem zak (b : Nat) (a : Option Addr) (c : Nat) (st : Opn) : (opI b a c st).Stable none' := zac _ _ _
def zjg (D : Eng.Item) (a : Option Addr) (c : Nat) (r : Bys) : Prop := r.length ≤ c ∧ ∀ w, D.prop w → Rd w a (zaf r)
theorem zjg.drop {D : Eng.Item} {a : Option Addr} {c : Nat} {r : Bys} (h : zjg D a c r) (n : Nat) : zjg D (zrc a (decide (c = n)) (n * 1)) (c - n) (r.drop n) :=
 ⟨by rw [aU]; have := h.1; omega, fun w hw => by rw [zxt]; exact (h.2 w hw).drop1 n (by rw [zap]; exact h.1)⟩
theorem zjg.front {D : Eng.Item} {a : Option Addr} {c : Nat} {r : Bys} (h : zjg D a c r) (n : Nat) {w : World} (hw : D.prop w) : Rd w a (zaf (r.take n)) := by
 rw [zxu]; exact (h.2 w hw).take n
theorem zwd {n : Nat} {r : Bys} (h : r.length < n) : opT n (r, false) = ([], (r, true)) := by simp [opT, h]
theorem qat {n : Nat} {r : Bys} (h : n ≤ r.length) : opT n (r, false) = (r.take n, (r.drop n, false)) := by simp [opT, kL.2 h]
theorem qie (bs : Bys) {k : Nat} (h : k < bs.length) : beV (bs.take (k + 1)) = beV (bs.take k) * 256 + bs[k].toNat := by
 rw [cT h, zz4]
theorem qej (bs : Bys) {k : Nat} (hk : k ≤ 7) : beV (bs.take k) * 256 + 255 < 18446744073709551616 := by
 have h1 := qkq (bs.take k)
 have h2 : (bs.take k).length ≤ 7 := by rw [aO]; omega
 have h3 : 256 ^ (bs.take k).length ≤ 256 ^ 7 := cZ dQ h2
 have e : 256 ^ 7 = 72057594037927936 := dQ
 omega
theorem qif (a : Option Addr) (n c : Nat) (bs : Bys) (hn : bs.length = n) (h8 : n ≤ 8) (w : World) (hr : Rd w a (zaf bs)) :
  Pu Tryz.prog 131 #[.slice a n c] w (.int .u64 (beV bs : Nat)) := by
 refine zbh [_] Tryz.func131 rfl rfl ?_
 simp only [zaa]
 refine goA ?_
 refine zcp (α := Nat) (fun k => [(3, .int .u64 (beV (bs.take k) : Nat)), (6, .slice a n c), (7, .int .i64 n), (8, .int .i64 k)]) (fun k => k ≤ n) (fun _ => []) (fun k => n - k) 0 ⟨rfl, rfl, rfl, rfl, trivial⟩ (aV _) (fun _ h => h) fun k hk => ?_
 by_cases hk2 : k < n
 ·have hkb : k < bs.length := oQ
  obtain ⟨b, off, rfl, hc⟩ := hr.byte hkb
  have hst := qie bs hkb
  have hsm := qej bs (k := k) oQ
  have hlt := bs[k].toNat_lt
  generalize bs[k] = x at hc hst hlt
  have hor := qpy (beV (bs.take k)) x.toNat hsm hlt
  refine goA ?_
  refine l_w rfl (ze2 rfl rfl (fun h => h) hc) ?_
  refine goA ?_
  rw [hor, ← hst]
  refine goA ?_
  exact zav (k + 1) ⟨rfl, rfl, rfl, rfl, trivial⟩ hk2 (fun _ h => h) oQ
 ·obtain rfl : k = n := oQ
  have ht : bs.take k = bs := cA oQ
  rw [ht]
  refine goA ?_
  exact zcz rfl rfl rfl
theorem zqd (b : Nat) (a : Option Addr) (c : Nat) (st : Opn) (n : Nat) (D : Eng.Item) (hsD : D.Stable none') (hD : zjg D a c st.1) (hn : n ≤ 8) (hz : st.1.length ≤ 1000000000) (w : World) (hw : ∀ it ∈ [opI b a c st, D], za1 it w) (ha : [opI b a c st, D].Pairwise Eng.Item.Apart) :
  Ct Tryz.prog 130 #[.pointer (some ⟨b, 0, none⟩), .int .i64 n, .func (.func 131) #[] #[]] w (zan [opI b a c st, D]) (fun _ : Option Addr × Nat => .int .u64 ((opN n st).1 : Nat)) (fun p => zjg D p.1 p.2 (opN n st).2.1) (fun p => [opI b p.1 p.2 (opN n st).2, D]) := by
 obtain ⟨r, bad⟩ := st
 simp only [opN] at *
 cases bad with
 | true =>
  rw [qge]
  simp only [zmx] at *
  refine zbb [_, _, _] _ Tryz.func130 rfl rfl hw ha ?_
  simp only [zaa, Nat.reduceAdd]
  refine goA ?_
  exact zbs (a, c) rfl rfl rfl hD (.refl _) (by simp [zac, hsD])
 | false =>
  by_cases hs : r.length < n
  ·rw [zwd hs]
   simp only [zmx, zll] at *
   refine zbb [_, _, _] _ Tryz.func130 rfl rfl hw ha ?_
   simp only [zaa, Nat.reduceAdd]
   refine goA ?_
   refine zaz rfl (zah rfl rfl rfl rfl rfl rfl sQ) fun _ => ?_
   refine goA ?_
   exact zbs (a, c) rfl rfl rfl hD (.refl _) (by simp [zac, hsD])
  ·have hl : n ≤ r.length := oQ
   have hcap := hD.1
   rw [qat hl]
   simp only [zll] at *
   refine zbb [_, _, _] _ Tryz.func130 rfl rfl hw ha ?_
   simp only [zaa, Nat.reduceAdd]
   refine goA ?_
   refine zaz rfl (zah rfl rfl rfl rfl rfl rfl sQ) fun _ => ?_
   refine goA ?_
   refine zgt rfl (zmv (fs := []) (cs := []) rfl kQ rfl rfl rfl fun w1 hw1 => qif a n c (r.take n) (by rw [aO]; omega) hn w1 (hD.front n (hw1.item D sQ).1)) fun _ => ?_
   refine goA ?_
   have e : r.length - n = (r.drop n).length := by rw [aU]
   rw [e]
   exact zbs (_, _) rfl rfl rfl (hD.drop n) (.refl _) (by simp [zac, hsD])
/-! ### Texts -/
theorem qb4 (a : Option Addr) (n c : Nat) (bs : Bys) (hn : bs.length = n) (w : World) (hr : Rd w a (zaf bs)) :
  Pu Tryz.prog 133 #[.slice a n c] w (.string ⟨bs.toArray⟩) := by
 refine zbh [_] Tryz.func133 rfl rfl ?_
 simp only [zaa]
 refine goA ?_
 refine l_w rfl (zsw rfl hn.symm rfl rfl (fun w1 hw1 => hr.keep hw1)) ?_
 refine goA ?_
 exact zcz rfl rfl rfl
theorem zzi (b : Nat) (a : Option Addr) (c : Nat) (st : Opn) (n : Nat) (D : Eng.Item) (hsD : D.Stable none') (hD : zjg D a c st.1) (hz : st.1.length ≤ 1000000000) (w : World) (hw : ∀ it ∈ [opI b a c st, D], za1 it w) (ha : [opI b a c st, D].Pairwise Eng.Item.Apart) :
  Ct Tryz.prog 132 #[.pointer (some ⟨b, 0, none⟩), .int .i64 n, .func (.func 133) #[] #[]] w (zan [opI b a c st, D]) (fun _ : Option Addr × Nat => .string ⟨(opT n st).1.toArray⟩) (fun p => zjg D p.1 p.2 (opT n st).2.1) (fun p => [opI b p.1 p.2 (opT n st).2, D]) := by
 obtain ⟨r, bad⟩ := st
 cases bad with
 | true =>
  rw [qge]
  simp only [zmx] at *
  refine zbb [_, _, _] _ Tryz.func132 rfl rfl hw ha ?_
  simp only [zaa, Nat.reduceAdd]
  refine goA ?_
  exact zbs (a, c) rfl rfl rfl hD (.refl _) (by simp [zac, hsD])
 | false =>
  by_cases hs : r.length < n
  ·rw [zwd hs]
   simp only [zmx, zll] at *
   refine zbb [_, _, _] _ Tryz.func132 rfl rfl hw ha ?_
   simp only [zaa, Nat.reduceAdd]
   refine goA ?_
   refine zaz rfl (zah rfl rfl rfl rfl rfl rfl sQ) fun _ => ?_
   refine goA ?_
   exact zbs (a, c) rfl rfl rfl hD (.refl _) (by simp [zac, hsD])
  ·have hl : n ≤ r.length := oQ
   have hcap := hD.1
   rw [qat hl]
   simp only [zll] at *
   refine zbb [_, _, _] _ Tryz.func132 rfl rfl hw ha ?_
   simp only [zaa, Nat.reduceAdd]
   refine goA ?_
   refine zaz rfl (zah rfl rfl rfl rfl rfl rfl sQ) fun _ => ?_
   refine goA ?_
   refine zgt rfl (zmv (fs := []) (cs := []) rfl kQ rfl rfl rfl fun w1 hw1 => qb4 a n c (r.take n) (by rw [aO]; omega) w1 (hD.front n (hw1.item D sQ).1)) fun _ => ?_
   refine goA ?_
   have e : r.length - n = (r.drop n).length := by rw [aU]
   rw [e]
   exact zbs (_, _) rfl rfl rfl (hD.drop n) (.refl _) (by simp [zac, hsD])
theorem zzh (b : Nat) (a : Option Addr) (c : Nat) (st : Opn) (D : Eng.Item) (hsD : D.Stable none') (hD : zjg D a c st.1) (w : World) (hw : ∀ it ∈ [opI b a c st, D], za1 it w) (ha : [opI b a c st, D].Pairwise Eng.Item.Apart) :
  Ct Tryz.prog 132 #[.pointer (some ⟨b, 0, none⟩), .int .i64 (-1), .func (.func 133) #[] #[]] w (zan [opI b a c st, D]) (fun _ : Unit => .string ⟨#[]⟩) (fun _ => True) (fun _ => [opI b a c (st.1, true), D]) := by
 obtain ⟨r, bad⟩ := st
 cases bad with
 | true =>
  simp only [zmx] at *
  refine zbb [_, _, _] _ Tryz.func132 rfl rfl hw ha ?_
  simp only [zaa, Nat.reduceAdd]
  refine goA ?_
  exact zbs () rfl rfl rfl trivial (.refl _) (by simp [zac, hsD])
 | false =>
  simp only [zmx, zll] at *
  refine zbb [_, _, _] _ Tryz.func132 rfl rfl hw ha ?_
  simp only [zaa, Nat.reduceAdd]
  refine goA ?_
  refine zaz rfl (zah rfl rfl rfl rfl rfl rfl sQ) fun _ => ?_
  refine goA ?_
  exact zbs () rfl rfl rfl trivial (.refl _) (by simp [zac, hsD])
/-! ### Hashes -/
theorem zyz (b : Nat) (a : Option Addr) (c : Nat) (st : Opn) (n : Nat) (D : Eng.Item) (hsD : D.Stable none') (hD : zjg D a c st.1) (hn : n = 1 ∨ n = 2 ∨ n = 4) (hz : st.1.length ≤ 1000000000) (w : World) (hw : ∀ it ∈ [opI b a c st, D], za1 it w) (ha : [opI b a c st, D].Pairwise Eng.Item.Apart) :
  Ct Tryz.prog 87 #[.pointer (some ⟨b, 0, none⟩), .int .i64 n] w (zan [opI b a c st, D]) (fun _ : Option Addr × Nat => .int .u64 ((opN n st).1 : Nat)) (fun p => zjg D p.1 p.2 (opN n st).2.1) (fun p => [opI b p.1 p.2 (opN n st).2, D]) := by
 refine zbb [_, _] _ Tryz.func87 rfl rfl hw ha ?_
 simp only [zaa, Nat.reduceAdd]
 refine goA ?_
 refine lPu rfl (fun w1 hw1 => zj0 n oQ w1) ?_
 refine goA ?_
 refine lCu [opI b a c st, D] rfl (by simp [zak, hsD]) (fun w1 hw1 hh1 ha1 => zqd b a c st n D hsD hD oQ hz w1 hh1 ha1) fun ⟨x, hx⟩ => ?_
 refine goA ?_
 exact zbs x rfl rfl rfl hx (.refl _) (by simp [zak, hsD])
theorem zpg (b : Nat) (a : Option Addr) (c : Nat) (st : Opn) (n : Nat) (D : Eng.Item) (hsD : D.Stable none') (hD : zjg D a c st.1) (hz : st.1.length ≤ 1000000000) (w : World) (hw : ∀ it ∈ [opI b a c st, D], za1 it w) (ha : [opI b a c st, D].Pairwise Eng.Item.Apart) :
  Ct Tryz.prog 88 #[.pointer (some ⟨b, 0, none⟩), .int .i64 n] w (zan [opI b a c st, D]) (fun _ : Option Addr × Nat => .string ⟨(opT n st).1.toArray⟩) (fun p => zjg D p.1 p.2 (opT n st).2.1) (fun p => [opI b p.1 p.2 (opT n st).2, D]) := by
 refine zbb [_, _] _ Tryz.func88 rfl rfl hw ha ?_
 simp only [zaa, Nat.reduceAdd]
 refine goA ?_
 refine lCu [opI b a c st, D] rfl (by simp [zak, hsD]) (fun w1 hw1 hh1 ha1 => zzi b a c st n D hsD hD hz w1 hh1 ha1) fun ⟨x, hx⟩ => ?_
 refine goA ?_
 exact zbs x rfl rfl rfl hx (.refl _) (by simp [zak, hsD])
theorem znf (b : Nat) (a : Option Addr) (c : Nat) (st : Opn) (D : Eng.Item) (hsD : D.Stable none') (hD : zjg D a c st.1) (w : World) (hw : ∀ it ∈ [opI b a c st, D], za1 it w) (ha : [opI b a c st, D].Pairwise Eng.Item.Apart) :
  Ct Tryz.prog 88 #[.pointer (some ⟨b, 0, none⟩), .int .i64 (-1)] w (zan [opI b a c st, D]) (fun _ : Unit => .string ⟨#[]⟩) (fun _ => True) (fun _ => [opI b a c (st.1, true), D]) := by
 refine zbb [_, _] _ Tryz.func88 rfl rfl hw ha ?_
 simp only [zaa, Nat.reduceAdd]
 refine goA ?_
 refine lCu [opI b a c st, D] rfl (by simp [zak, hsD]) (fun w1 hw1 hh1 ha1 => zzh b a c st D hsD hD w1 hh1 ha1) fun ⟨x, hx⟩ => ?_
 refine goA ?_
 exact zbs x rfl rfl rfl hx (.refl _) (by simp [zak, hsD])
theorem zgh (b : Nat) (a : Option Addr) (c : Nat) (st : Opn) (w : World) (hw : za1 (opI b a c st) w) : Pu Tryz.prog 89 #[.pointer (some ⟨b, 0, none⟩)] w (.int .i64 st.1.length) := by
 refine zbh [_] Tryz.func89 rfl rfl ?_
 simp only [zaa]
 refine goA ?_
 refine l_w rfl (ze2 rfl rfl (fun h => h) (zdv hw.1 rfl)) ?_
 refine goA ?_
 exact zcz rfl rfl rfl
theorem zew (b : Nat) (a : Option Addr) (c : Nat) (st : Opn) (w : World) (hw : za1 (opI b a c st) w) : Pu Tryz.prog 134 #[.pointer (some ⟨b, 0, none⟩)] w (.int .i64 ((if st.2 then 3 else 0 : Nat) : Int)) := by
 refine zbh [_] Tryz.func134 rfl rfl ?_
 simp only [zaa]
 refine goA ?_
 refine l_w rfl (ze2 rfl rfl (fun h => h) (zdv hw.1 rfl)) ?_
 refine goA ?_
 exact zcz rfl rfl rfl
theorem qez (b : Nat) (a : Option Addr) (c : Nat) (st : Opn) (w : World) (hw : za1 (opI b a c st) w) : Pu Tryz.prog 90 #[.pointer (some ⟨b, 0, none⟩)] w (.int .i64 ((if st = ([], false) then 0 else 3 : Nat) : Int)) := by
 refine zbh [_] Tryz.func90 rfl rfl ?_
 simp only [zaa]
 refine goA ?_
 refine lPu rfl (fun w1 hw1 => zew b a c st w1 (hw.fr hw1.fr)) ?_
 obtain ⟨r, bad⟩ := st
 cases bad with
 | true =>
  simp only [if_true, show ¬ (r, true) = (([], false) : Opn) from fun h => (by cases h), if_false]
  refine goA ?_
  exact zcz rfl rfl rfl
 | false =>
  simp only [if_neg bF]
  refine goA ?_
  refine lPu rfl (fun w1 hw1 => zgh b a c (r, false) w1 (hw.fr hw1.fr)) ?_
  cases r with
  | nil =>
   simp only [if_true, eE]
   refine goA ?_
   exact zcz rfl rfl rfl
  | cons x r =>
   simp only [show ¬ (x :: r, false) = (([], false) : Opn) from fun h => (by cases h), if_false, aZ]
   refine goA ?_
   exact zcz rfl rfl rfl
theorem zk1 (a : Option Addr) (n c : Nat) (bs : Bys) (hn : bs.length = n) (hz : n ≤ 1000000000) (w : World) (hr : Rd w a (zaf bs)) :
  Ct Tryz.prog 85 #[.slice a n c] w none' (fun p : Nat × Option (Nat × Nat) => .pointer (some ⟨p.1, 0, none⟩)) (fun p => zjg (own 5 1 p.2 n (zaf bs)) (slA p.2) (slC p.2) bs) (fun p => [opI p.1 (slA p.2) (slC p.2) (bs, false), own 5 1 p.2 n (zaf bs)]) := by
 refine zfv [_] Tryz.func85 rfl rfl ?_
 simp only [zaa]
 refine goA ?_
 refine ze7 rfl rfl kQ rfl (fun w1 hw1 => zos a n c bs hn hz w1 (hr.keep hw1)) fun x hx => ?_
 refine zd4 (fun w hw => (zas (hw.item (own 5 1 x n (zaf bs)) sQ).1)) fun ⟨hsl, hcap⟩ => ?_
 rw [hsl]
 refine goA ?_
 refine zbt rfl rfl fun b hb => ?_
 refine goA ?_
 subst hn
 exact zbs (b, x) rfl rfl rfl ⟨hcap, fun w hw => zbl hw⟩ (.refl _) (by simp [zab, zak])
theorem Rd.at0 {w : World} {b off : Nat} {x : UInt8} {r : Bys} (h : Rd w (some ⟨b, off, none⟩) (zaf (x :: r))) : w.cell? ⟨b, off + 0, none⟩ = some (.int .u8 (x.toNat : Int)) := by
 obtain ⟨b2, off2, e, h2⟩ := h.byte (i := 0) sQ
 cases e
 exact h2
theorem zr3 (r : Bys) : zfc (r, true) = ([], (r, true)) := rfl
theorem qc4 : zfc ([], false) = ([], ([], true)) := rfl
theorem zng {x : UInt8} {r : Bys} (h : r.length < x.toNat) : zfc (x :: r, false) = ([], (x :: r, true)) := by simp [zfc, h]
theorem zpj {x : UInt8} {r : Bys} (h : ¬ r.length < x.toNat) : zfc (x :: r, false) = opT x.toNat (r, false) := by simp [zfc, opT, h]
theorem qmu (x : UInt8) (r : Bys) : opN 1 (x :: r, false) = (x.toNat, (r, false)) := by simp [opN, opT, beV]
theorem qjn (n : Nat) (r : Bys) : opN n (r, true) = (0, (r, true)) := by simp [opN, opT, beV]
theorem zij {b : Nat} {a : Option Addr} {c : Nat} {st : Opn} {n : Nat} {D : Eng.Item} (v : Nat) (st' : Opn) (he : opN n st = (v, st')) (hsD : D.Stable none') (hD : zjg D a c st.1) (hn : n = 1 ∨ n = 2 ∨ n = 4) (hz : st.1.length ≤ 1000000000) {w : World} (hw : ∀ it ∈ [opI b a c st, D], za1 it w) (ha : [opI b a c st, D].Pairwise Eng.Item.Apart) :
  Ct Tryz.prog 87 #[.pointer (some ⟨b, 0, none⟩), .int .i64 n] w (zan [opI b a c st, D]) (fun _ : Option Addr × Nat => .int .u64 (v : Nat)) (fun p => zjg D p.1 p.2 st'.1) (fun p => [opI b p.1 p.2 st', D]) := by
 have := zyz b a c st n D hsD hD hn hz w hw ha
 rw [he] at this; exact this
theorem zpf {b : Nat} {a : Option Addr} {c : Nat} {st : Opn} {n : Nat} {D : Eng.Item} (t : Bys) (st' : Opn) (he : opT n st = (t, st')) (hsD : D.Stable none') (hD : zjg D a c st.1) (hz : st.1.length ≤ 1000000000) {w : World} (hw : ∀ it ∈ [opI b a c st, D], za1 it w) (ha : [opI b a c st, D].Pairwise Eng.Item.Apart) :
  Ct Tryz.prog 88 #[.pointer (some ⟨b, 0, none⟩), .int .i64 n] w (zan [opI b a c st, D]) (fun _ : Option Addr × Nat => .string ⟨t.toArray⟩) (fun p => zjg D p.1 p.2 st'.1) (fun p => [opI b p.1 p.2 st', D]) := by
 have := zpg b a c st n D hsD hD hz w hw ha
 rw [he] at this; exact this
theorem zyx (b : Nat) (a : Option Addr) (c : Nat) (st : Opn) (D : Eng.Item) (hsD : D.Stable none') (hD : zjg D a c st.1) (hz : st.1.length ≤ 1000000000) (w : World) (hw : ∀ it ∈ [opI b a c st, D], za1 it w) (ha : [opI b a c st, D].Pairwise Eng.Item.Apart) :
  Ct Tryz.prog 180 #[.pointer (some ⟨b, 0, none⟩)] w (zan [opI b a c st, D]) (fun _ : Option Addr × Nat => .string ⟨(zfc st).1.toArray⟩) (fun p => zjg D p.1 p.2 (zfc st).2.1) (fun p => [opI b p.1 p.2 (zfc st).2, D]) := by
 refine zbb [_] _ Tryz.func180 rfl rfl hw ha ?_
 simp only [zaa]
 refine goA ?_
 obtain ⟨r, bad⟩ := st
 cases r with
 | nil =>
  refine zi6 kQ ?_
  refine goE ?_
  refine dPu 1 rfl rfl (fun w1 hw1 => zgh b a c ([], bad) w1 ⟨(hw1.item _ (.head _)).1, zak _ _ _ _, fun k hk => ((hw1.item _ (.head _)).2.2 k hk).1⟩) ?_
  simp only [eE]
  refine goX ?_
  have e : opN 1 (([] : Bys), bad) = (0, ([], true)) := by cases bad <;> rfl
  have e2 : zfc (([] : Bys), bad) = ([], ([], true)) := by cases bad <;> rfl
  rw [e2]
  refine lCu ([opI b a c ([], bad), D]) rfl (by simp [zak, hsD]) (fun w1 hw1 hh1 ha1 => zij 0 ([], true) e hsD hD (.inl rfl) sQ hh1 ha1) fun ⟨x, hx⟩ => ?_
  refine goA ?_
  refine lCu ([opI b x.1 x.2 ([], true), D]) rfl (by simp [zak, hsD]) (fun w1 hw1 hh1 ha1 => zpf (n := 0) [] ([], true) rfl hsD hx sQ hh1 ha1) fun ⟨y, hy⟩ => ?_
  refine goA ?_
  exact zbs y rfl rfl rfl hy (.refl _) (by simp [zak, hsD])
 | cons x r =>
  have hrw := hD.2 w (hw D sQ).1
  obtain ⟨bb, off, rfl, hc0⟩ := hrw.byte (i := 0) sQ
  have hx0 : ∀ {F : Nat → Prop} {m : List Eng.Item} w', Hp w F m w' → D ∈ m → w'.cell? ⟨bb, off + 0, none⟩ = some (.int .u8 (x.toNat : Int)) := fun w' hw' hm => Rd.at0 (hD.2 w' (hw'.item D hm).1)
  have hxl := x.toNat_lt
  have hzr : r.length ≤ 1000000000 := by simp only [aZ] at hz; omega
  obtain ⟨N1, hN1⟩ : ∃ n, (x :: r).length = n := ⟨_, rfl⟩
  have hN2 : N1 = r.length + 1 := by rw [← hN1]; rfl
  have hopI : opI b (some ⟨bb, off, none⟩) c (x :: r, bad) = opJ b (some ⟨bb, off, none⟩) N1 c (if bad then 3 else 0) := by rw [← hN1]; rfl
  rw [hopI]
  refine zi6 kQ ?_
  refine goE ?_
  refine dPu 1 rfl rfl (fun w1 hw1 => zgh b (some ⟨bb, off, none⟩) c (x :: r, bad) w1 (by rw [hopI]; exact ⟨(hw1.item _ (.head _)).1, zac _ _ _, fun k hk => ((hw1.item _ (.head _)).2.2 k hk).1⟩)) ?_
  simp only [hN1]
  refine goE ?_
  refine d_v [] rfl rfl kQ (fun _ h => h) rfl rfl (zay rfl rfl (fun w' hw' => hx0 w' hw' sQ)) ?_
  refine goE ?_
  refine zei kQ ?_
  rw [← hopI]
  cases bad with
  | true =>
   rw [zr3]
   refine goA ?_
   refine qp3 rfl rfl (fun h => ?_) (fun h => ?_)
   ·refine goA ?_
    refine lCu [opI b (some ⟨bb, off, none⟩) c (x :: r, true), D] rfl (by simp [zak, hsD]) (fun w1 hw1 hh1 ha1 => znf b _ c (x :: r, true) D hsD hD w1 hh1 ha1) fun _ => ?_
    refine goA ?_
    exact zbs (some ⟨bb, off, none⟩, c) rfl rfl rfl hD (.refl _) (by simp [zak, hsD])
   ·refine goA ?_
    refine lCu [opI b (some ⟨bb, off, none⟩) c (x :: r, true), D] rfl (by simp [zak, hsD]) (fun w1 hw1 hh1 ha1 => zij 0 (x :: r, true) (qjn 1 _) hsD hD (.inl rfl) hz hh1 ha1) fun ⟨y, hy⟩ => ?_
    refine goA ?_
    refine lCu [opI b y.1 y.2 (x :: r, true), D] rfl (by simp [zak, hsD]) (fun w1 hw1 hh1 ha1 => zpf (n := 0) [] (x :: r, true) rfl hsD hy hz hh1 ha1) fun ⟨z, hz2⟩ => ?_
    refine goA ?_
    exact zbs z rfl rfl rfl hz2 (.refl _) (by simp [zak, hsD])
  | false =>
   by_cases hs : r.length < x.toNat
   ·rw [zng hs]
    refine goA ?_
    refine lCu [opI b (some ⟨bb, off, none⟩) c (x :: r, false), D] rfl (by simp [zak, hsD]) (fun w1 hw1 hh1 ha1 => znf b _ c (x :: r, false) D hsD hD w1 hh1 ha1) fun _ => ?_
    refine goA ?_
    exact zbs (some ⟨bb, off, none⟩, c) rfl rfl rfl hD (.refl _) (by simp [zak, hsD])
   ·rw [zpj hs]
    refine goA ?_
    refine lCu [opI b (some ⟨bb, off, none⟩) c (x :: r, false), D] rfl (by simp [zak, hsD]) (fun w1 hw1 hh1 ha1 => zij x.toNat (r, false) (qmu x r) hsD hD (.inl rfl) hz hh1 ha1) fun ⟨y, hy⟩ => ?_
    refine goA ?_
    refine lCu [opI b y.1 y.2 (r, false), D] rfl (by simp [zak, hsD]) (fun w1 hw1 hh1 ha1 => zpg b y.1 y.2 (r, false) x.toNat D hsD hy hzr w1 hh1 ha1) fun ⟨z, hz2⟩ => ?_
    refine goA ?_
    exact zbs z rfl rfl rfl hz2 (.refl _) (by simp [zak, hsD])
theorem zmy (b : Nat) (o : Option (Nat × Nat)) (xs : List UInt8) (n : Nat) (hn : n < 18446744073709551616) (hz : xs.length ≤ 900000000) (w : World) (hw : ∀ it ∈ pks b o xs, za1 it w) (ha : (pks b o xs).Pairwise Eng.Item.Apart) :
  Ct Tryz.prog 80 #[.pointer (some ⟨b, 0, none⟩), .int .i64 8, .int .u64 n] w (zan (pks b o xs)) (fun _ : Option (Nat × Nat) => .pointer (some ⟨b, 0, none⟩)) (fun _ => True) (fun o' => pks b o' (xs ++ beN 8 n)) := by
 refine zbb [_, _, _] _ Tryz.func80 rfl rfl hw ha ?_
 simp only [zaa, Nat.reduceAdd]
 refine goA ?_
 refine zd3 rfl rfl rfl fun b4 hb4 => ?_
 refine goA ?_
 refine zd3 rfl rfl rfl fun b5 hb5 => ?_
 refine goA ?_
 refine lPu rfl (fun w1 hw1 => zj0 8 dQ w1) ?_
 refine goA ?_
 refine l_w rfl (zn5 rfl) ?_
 refine za0 [2, 3, 1, 0] rfl rfl ?_
 refine lCu [own _ _ _ _ _, pt b _] rfl (by first | (simp [zac, zab, zdn]; done) | (intro it hm; (iterate 6 (all_goals try (rcases hm with _ | ⟨_, hm⟩))) <;> first | exact zad _ | exact zac _ _ _ | exact zab _ _ _ _ _ _)) (fun w1 hw1 hh1 ha1 => zjt b o xs (beN 8 n) 121 [.pointer (some ⟨b4, 0, none⟩), .pointer (some ⟨b5, 0, none⟩)] (fun p : Nat × Nat => ⟨p.1, 0, none⟩) (fun p => p.2) (fun p => own 5 1 (some p) 8 (zaf (beN 8 n))) (fun p => zab _ _ _ _ _ _) kQ (by rw [zam]; omega) w1 hh1 ha1 (fun w2 hw2 => by rw [zam]; exact zsb b4 b5 8 n dQ w2 (hw2.old (zr5 hw1 (.head _)) (zdv (hw1.get (.tail _ (.tail _ (.head _)))) rfl)) (hw2.old (zr5 hw1 (.tail _ (.head _))) (zdv (hw1.get (.tail _ (.tail _ (.tail _ (.head _))))) rfl))) (fun p w2 hp _ j v hj => by rw [zc9, aF]; exact zbm hp j v hj)) fun ⟨x, hx⟩ => ?_
 refine goA ?_
 exact zbs x rfl rfl rfl trivial (.cons_cons _ (.cons_cons _ (aD _))) (by simp [zab, zac])
theorem zv9 (b : Nat) (a : Option Addr) (c : Nat) (st : Opn) (D : Eng.Item) (hsD : D.Stable none') (hD : zjg D a c st.1) (hz : st.1.length ≤ 1000000000) (w : World) (hw : ∀ it ∈ [opI b a c st, D], za1 it w) (ha : [opI b a c st, D].Pairwise Eng.Item.Apart) :
  Ct Tryz.prog 87 #[.pointer (some ⟨b, 0, none⟩), .int .i64 8] w (zan [opI b a c st, D]) (fun _ : Option Addr × Nat => .int .u64 ((opN 8 st).1 : Nat)) (fun p => zjg D p.1 p.2 (opN 8 st).2.1) (fun p => [opI b p.1 p.2 (opN 8 st).2, D]) := by
 refine zbb [_, _] _ Tryz.func87 rfl rfl hw ha ?_
 simp only [zaa, Nat.reduceAdd]
 refine goA ?_
 refine lPu rfl (fun w1 hw1 => zj0 8 dQ w1) ?_
 refine goA ?_
 refine lCu [opI b a c st, D] rfl (by simp [zak, hsD]) (fun w1 hw1 hh1 ha1 => zqd b a c st 8 D hsD hD dQ hz w1 hh1 ha1) fun ⟨x, hx⟩ => ?_
 refine goA ?_
 exact zbs x rfl rfl rfl hx (.refl _) (by simp [zak, hsD])
theorem zyy {b : Nat} {a : Option Addr} {c : Nat} {st : Opn} {D : Eng.Item} (v : Nat) (st' : Opn) (he : opN 8 st = (v, st')) (hsD : D.Stable none') (hD : zjg D a c st.1) (hz : st.1.length ≤ 1000000000) {w : World} (hw : ∀ it ∈ [opI b a c st, D], za1 it w) (ha : [opI b a c st, D].Pairwise Eng.Item.Apart) :
  Ct Tryz.prog 87 #[.pointer (some ⟨b, 0, none⟩), .int .i64 8] w (zan [opI b a c st, D]) (fun _ : Option Addr × Nat => .int .u64 (v : Nat)) (fun p => zjg D p.1 p.2 st'.1) (fun p => [opI b p.1 p.2 st', D]) := by
 have := zv9 b a c st D hsD hD hz w hw ha
 rw [he] at this; exact this
structure zqz (w : World) : Prop where
 obj : w.heap[1]? = some (.cells (halves.map w32).toArray 265 (0, 0))
theorem zqz.halves {w : World} (h : zqz w) : w.rangeAt 1 0 (halves.map w32) := za7 h.obj
theorem zqz.top {w : World} (h : zqz w) : 1 < w.heap.size := (bC.1 h.obj).1
theorem zqz.fr {w w' : World} {F : Nat → Prop} (h : zqz w) (hF : ¬ F 1) (hf : Fr F w w') : zqz w' := ⟨(hf.block _ h.top hF).trans h.obj⟩
theorem zqz.keep {w w' : World} {m : List Eng.Item} (h : zqz w) (hw : Hp w none' m w') : zqz w' := h.fr (fun h => h) hw.fr
def hN : Nat → BitVec 32 → BitVec 32
 | 0, m => m
 | j + 1, m => qqq (hN j m)
theorem qfa (m : BitVec 32) : (halves.map w32)[(m &&& 15#32).toNat]? = some (w32 (halves[(m &&& 15#32).toNat]?.getD 0)) := by
 have h : (m &&& 15#32).toNat < halves.length := by
  rw [fE]
  exact Nat.lt_succ_of_le Nat.and_le_right
 rw [aN, aB h]
 rfl
theorem zu9 (a : Option Addr) (n c : Nat) (bs : Bys) (hn : bs.length = n) (hz : n ≤ 1000000000) (w : World) (hr : Rd w a (zaf bs)) (ht : zqz w) :
  Pu Tryz.prog 183 #[.slice a n c] w (w32 (zs4 bs)) := by
 refine zbh [_] Tryz.func183 rfl rfl ?_
 simp only [zaa]
 refine goA ?_
 refine zcp (α := Nat) (fun k => [(3, w32 ((bs.take k).foldl qb5 (BitVec.allOnes 32))), (6, .slice a n c), (7, .int .i64 n), (8, .int .i64 k)]) (fun k => k ≤ n) (fun _ => []) (fun k => n - k) 0 ⟨rfl, rfl, rfl, rfl, trivial⟩ (aV _) (fun _ h => h) fun k hk => ?_
 by_cases hk2 : k < n
 ·have hkb : k < bs.length := oQ
  obtain ⟨b, off, rfl, hc⟩ := hr.byte hkb
  have hst : (bs.take (k + 1)).foldl qb5 (BitVec.allOnes 32) = qb5 ((bs.take k).foldl qb5 (BitVec.allOnes 32)) bs[k] := by rw [cT hkb, List.foldl_append]; rfl
  generalize bs[k] = x at hc hst
  generalize (bs.take k).foldl qb5 (BitVec.allOnes 32) = q at hst ⊢
  refine goW ?_
  refine l_w rfl (ze2 rfl rfl (fun h => h) hc) ?_
  refine goW ?_
  refine zcp (α := Nat) (fun j => [(3, w32 (hN j (q ^^^ BitVec.ofNat 32 x.toNat))), (6, .slice (some ⟨b, off, none⟩) n c), (7, .int .i64 n), (8, .int .i64 k), (16, .int .i64 j)]) (fun j => j ≤ 2) (fun _ => []) (fun j => 2 - j) 0 ⟨rfl, rfl, rfl, rfl, rfl, trivial⟩ (aV _) (fun _ h => h) fun j hj => ?_
  by_cases hj2 : j < 2
  ·have hh := qfa (hN j (q ^^^ BitVec.ofNat 32 x.toNat))
   have hl : (hN j (q ^^^ BitVec.ofNat 32 x.toNat) &&& 15#32).toNat < 16 := by
    rw [fE]
    exact Nat.lt_succ_of_le Nat.and_le_right
   refine goW ?_
   refine l_w rfl (ze2 rfl rfl (fun h => h) (ht.halves _ _ hh)) ?_
   refine goW ?_
   exact zav (j + 1) ⟨rfl, rfl, rfl, rfl, rfl, trivial⟩ hj2 (fun _ h => h) oQ
  ·obtain rfl : j = 2 := oQ
   refine goW ?_
   refine zav (k + 1) ⟨by rw [hst]; rfl, rfl, rfl, rfl, trivial⟩ hk2 (fun _ h => h) oQ
 ·obtain rfl : k = n := oQ
  have ht : bs.take k = bs := cA oQ
  rw [ht]
  refine goW ?_
  exact zcz rfl rfl rfl
def rdI (b : Nat) (s : Bys) : Eng.Item := ⟨fun k => k = b, fun w => w.rangeAt b 0 (zaf s) ∧ b < w.heap.size⟩
theorem zfg (b : Nat) (s : Bys) : (rdI b s).Stable none' := fun w w' h ⟨hp, hl⟩ => by
 have hb := h b (.inr rfl)
 refine ⟨fun j v hj => ?_, ?_⟩
 ·rw [← hp j v hj]
  unfold World.cell?
  simp only [hb]
 ·rw [fD hl] at hb
  exact (bC.1 hb).1
def zcf (D : Dsk) (at_ : Nat) : Bys := ((D.wait.reverse.find? fun p => decide (p.2 = at_)).map (·.1)).getD (D.on.getD at_ [])
theorem zkq (A : List Bys) (x : Bys) (B : List Bys) : ze9 (A ++ x :: B) = ze9 A ++ (zaf x ++ ze9 B) := by simp [ze9]
theorem qm1 {l : List Bys} (h : ∀ s ∈ l, s.length = 512) {i : Nat} (hi : i < l.length) {w : World} {b : Nat} (hr : w.rangeAt b 0 (ze9 l)) : w.rangeAt b (i * 512) (zaf l[i]) := fun j v hj => by
 have h5 : j < 512 := by have := (aM.1 hj).1; rwa [zap, h _ (aR hi)] at this
 have hsp : l.take i ++ (l[i] :: l.drop (i + 1)) = l := by rw [dG, bE]
 have hlen : ∀ L : List Bys, (∀ s ∈ L, s.length = 512) → (ze9 L).length = L.length * 512 := by
  intro L
  induction L with
  | nil => intro _; rfl
  | cons x L ih =>
   intro hL
   have e : ze9 (x :: L) = zaf x ++ ze9 L := by simp [ze9]
   rw [e, aA, ih fun q hq => hL q (by simp [hq]), zap, hL x sQ, aZ]; omega
 have hl : (ze9 (l.take i)).length = i * 512 := by rw [hlen _ fun s hs => h s (bX hs), aO, eQ oQ]
 have e := zkq (l.take i) l[i] (l.drop (i + 1))
 rw [hsp] at e
 have := hr (i * 512 + j) v ?_
 ·rwa [aF] at this
 ·rw [e, dM oQ, hl, iI, cE (by rw [zap, h _ (aR hi)]; exact h5)]
  exact hj
theorem qq9 {d : Dk} {w : World} (h : za1 (dkI d) w) (ok : d.D.Ok) {i : Nat} (hi : i < d.D.on.length) : w.rangeAt d.onB (i * 512) (zaf d.D.on[i]) :=
 qm1 ok.size hi (za7 (h.1.1 (pt d.onB (.cells (ze9 d.D.on).toArray 187 (0, 0))) (.tail _ (.head _))).1)
theorem zm8 {p : Bys × Nat} (h : p.1.length = 512) : (wrV p).length = 513 := by rw [wrV, aA, zap, h]; rfl
theorem qgv (d : Dk) (ok : d.D.Ok) (at_ : Nat) (hat : at_ < d.D.on.length) (w : World) (h : za1 (dkI d) w) :
  Ct Tryz.prog 139 #[.pointer (some ⟨d.b, 0, none⟩), .int .i64 at_] w none' (fun b : Nat => .slice (some ⟨b, 0, none⟩) 512 512) (fun _ => True) (fun b => [rdI b (d.D.on.getD at_ [])]) := by
 refine zfv [_, _] Tryz.func139 rfl rfl ?_
 simp only [zaa, Nat.reduceAdd]
 have hmany := ok.many
 have hrow := qq9 h ok hat
 have hs := ok.size _ (aR hat)
 have hg : d.D.on.getD at_ [] = d.D.on[at_] := by rw [aC, aB hat]; rfl
 rw [hg]
 generalize d.D.on[at_] = s at hrow hs ⊢
 have hb : (zaf s).length = 512 := by rw [zap, hs]
 refine goA ?_
 refine lPu rfl (fun w1 hw1 => zoz d at_ oQ w1 (h.keep hw1)) ?_
 rw [if_pos hat]
 refine goA ?_
 refine l_w rfl (zay rfl rfl (fun w' hw' => qex (h.keep hw') 2 rfl)) ?_
 refine goA ?_
 rw [aF]
 refine l_w rfl (zjb (xs := zaf s) rfl (by rw [hb]; rfl) (fun w' hw' => zbe hrow (fun h => h) hw')) ?_
 refine zal rfl rfl fun b5 hb5 => ?_
 refine zaz rfl (zag (cs' := (zaf s).toArray) rfl rfl rfl (by rw [bR, hb]; rfl) (zeo _) (by rw [bR, hb]; rfl)) fun _ => ?_
 refine goA ?_
 refine l_w rfl (zun (n := 512) rfl rfl rfl rfl) ?_
 refine goA ?_
 refine zb3 (m' := [rdI b5 s]) (fun w' hw' => hw'.imp (fun _ h => h) (fun hp => ⟨za7 hp, (bC.1 hp).1⟩) ((zfg _ _).ro _)) ?_
 exact zbs b5 rfl rfl rfl trivial (.refl _) (by simp [zfg])
theorem ql4 {d : Dk} {w : World} (h : za1 (dkI d) w) (ok : d.D.Ok) {i : Nat} (hi : i < d.D.wait.length) : ∃ b c, d.w = some (b, c) ∧ w.rangeAt b (i * 513) (wrV d.D.wait[i]) := by
 have hp := (h.1.1 (own 189 513 d.w d.D.wait.length (zc4 wrV d.D.wait)) (.tail _ (.tail _ (.head _)))).1
 have hsz : ∀ p ∈ d.D.wait, (wrV p).length = 513 := fun p hp => zm8 (ok.wsize p hp).1
 match hw : d.w, hp with
 | none, hp => exact absurd hp.2 oQ
 | some (b, c), hp =>
  refine ⟨b, c, rfl, fun j v hj => ?_⟩
  have hl : ∀ L : List (Bys × Nat), (∀ p ∈ L, (wrV p).length = 513) → (zc4 wrV L).length = L.length * 513 := by
   intro L
   induction L with
   | nil => intro _; rfl
   | cons x L ih =>
    intro hL
    rw [zgk, aA, ih fun q hq => hL q (by simp [hq]), hL x sQ, aZ]; omega
  have h5 : j < 513 := by have := (aM.1 hj).1; rwa [hsz _ (aR hi)] at this
  have hsp : d.D.wait.take i ++ (d.D.wait[i] :: d.D.wait.drop (i + 1)) = d.D.wait := by rw [dG, bE]
  have e : zc4 wrV (d.D.wait.take i ++ (d.D.wait[i] :: d.D.wait.drop (i + 1))) = zc4 wrV (d.D.wait.take i) ++ (wrV d.D.wait[i] ++ zc4 wrV (d.D.wait.drop (i + 1))) := by rw [zi5, zgk]
  rw [hsp] at e
  have h2 := zel hp (i * 513 + j) v ?_
  ·rwa [aF] at h2
  ·rw [e, dM (by rw [hl _ fun p hp => hsz p (bX hp), aO, eQ oQ]; omega), hl _ fun p hp => hsz p (bX hp), aO, eQ oQ, iI, cE (by rw [hsz _ (aR hi)]; exact h5)]
   exact hj
def dnI : Nat → Int
 | 0 => -1
 | j + 1 => (j : Nat)
theorem qkw : ∀ j : Nat, dnI j = (j : Int) - 1
 | 0 => rfl
 | j + 1 => by rw [dnI]; omega
theorem qr1 {w : World} {b off : Nat} {p : Bys × Nat} (h5 : p.1.length = 512) (h : w.rangeAt b off (wrV p)) : w.cell? ⟨b, off + 512, none⟩ = some (.int .i64 (p.2 : Int)) :=
 h 512 _ (by rw [wrV, dM (by rw [zap]; omega), zap, h5]; rfl)
theorem zuq {w : World} {b off : Nat} {p : Bys × Nat} (h : w.rangeAt b off (wrV p)) : w.rangeAt b off (zaf p.1) := fun j v hj => h j v (by
 rw [wrV, cE (aM.1 hj).1]; exact hj)
theorem zup (p : Bys × Nat) : zbx (wrV p) = true := by
 rw [za5]
 intro v hv
 rcases aS.1 hv with hv | hv
 ·exact za5.1 (zeo _) v hv
 ·rw [aL] at hv; subst hv; rfl
theorem ql2 {D : Dsk} {i : Nat} (hi : i < D.wait.length) {at_ : Nat} (hno : ∀ p ∈ D.wait.drop (i + 1), p.2 ≠ at_) (he : D.wait[i].2 = at_) : zcf D at_ = D.wait[i].1 := by
 have hsp : D.wait = D.wait.take i ++ (D.wait[i] :: D.wait.drop (i + 1)) := by rw [dG, bE]
 have hf : D.wait.reverse.find? (fun p => decide (p.2 = at_)) = some D.wait[i] := by
  conv => lhs; rw [hsp]
  rw [List.reverse_append, List.reverse_cons, aH, gS, dP.2 fun x hx => by simpa using hno x (kF.1 hx)]
  simp [he]
 unfold zcf
 rw [hf]; rfl
theorem qii {D : Dsk} {at_ : Nat} (hno : ∀ p ∈ D.wait, p.2 ≠ at_) : zcf D at_ = D.on.getD at_ [] := by
 have hf : D.wait.reverse.find? (fun p => decide (p.2 = at_)) = none := dP.2 fun x hx => by simpa using hno x (kF.1 hx)
 unfold zcf
 rw [hf]; rfl
theorem zmz (d : Dk) (ok : d.D.Ok) (hlive : d.D.dead = false) (at_ : Nat) (hat : at_ < d.D.on.length) (hwl : d.D.wait.length ≤ 1000000000) (w : World) (h : za1 (dkI d) w) :
  Ct Tryz.prog 98 #[.pointer (some ⟨d.b, 0, none⟩), .int .i64 at_] w none' (fun b : Nat => .tuple #[.slice (some ⟨b, 0, none⟩) 512 512, .int .i64 0]) (fun _ => True) (fun b => [rdI b (zcf d.D at_)]) := by
 refine zfv [_, _] Tryz.func98 rfl rfl ?_
 simp only [zaa, Nat.reduceAdd]
 have hmany := ok.many
 refine goA ?_
 refine lPu rfl (fun w1 hw1 => zkp d w1 (h.keep hw1)) ?_
 rw [hlive]
 refine goA ?_
 refine lPu rfl (fun w1 hw1 => zoz d at_ oQ w1 (h.keep hw1)) ?_
 rw [if_pos hat]
 refine zaz rfl (zba rfl rfl rfl rfl rfl rfl) fun ⟨bq, hbq⟩ => ?_
 refine lPu rfl (fun w1 hw1 => zke [0, 0] (some ⟨bq, 0, none⟩) 2 sQ w1 (zbl (o := some (bq, 2)) (hw1.item _ (.head _)).1)) ?_
 rw [show zii [0, 0] = 0 from rfl]
 refine goA ?_
 have hvl := (zas (h.1.1 (own 189 513 d.w d.D.wait.length (zc4 wrV d.D.wait)) (.tail _ (.tail _ (.head _)))).1).1
 have h3 : (zev d)[3]? = some (.slice (slA d.w) d.D.wait.length (slC d.w)) := by rw [← hvl]; rfl
 refine l_w rfl (zay rfl rfl (fun w' hw' => qex (h.keep hw') 3 h3)) ?_
 refine goA ?_
 refine l_w rfl (zsx rfl rfl oQ) ?_
 refine goA ?_
 refine zcp (α := Nat) (fun k => [(0, .pointer (some ⟨d.b, 0, none⟩)), (1, .int .i64 at_), (7, .int .i64 (dnI k))]) (fun k => k ≤ d.D.wait.length ∧ ∀ p ∈ d.D.wait.drop k, p.2 ≠ at_) (fun _ => []) (fun k => k) d.D.wait.length ⟨rfl, rfl, by rw [qkw]; rfl, trivial⟩ ⟨aX _, by rw [kD]; exact fun _ h => nomatch h⟩ (fun w' hw' => hw'.pick [] rfl rfl) fun k ⟨hk, hno⟩ => ?_
 cases k with
 | zero =>
  rw [qii hno, show dnI 0 = -1 from rfl]
  refine goA ?_
  refine ze7 rfl rfl kQ rfl (fun w1 hw1 => qgv d ok at_ hat w1 (h.keep hw1)) fun x hx => ?_
  refine goA ?_
  exact zdq x rfl rfl rfl rfl trivial (.refl _) (by simp [zfg])
 | succ j =>
  have hj : j < d.D.wait.length := hk
  obtain ⟨bw, cw, hbw, hrow⟩ := ql4 h ok hj
  have hsz := ok.wsize _ (aR hj)
  have hhit := ql2 hj hno
  have hdr : d.D.wait.drop j = d.D.wait[j] :: d.D.wait.drop (j + 1) := (dG ..).symm
  rw [hbw] at h3
  generalize d.D.wait[j] = p at hrow hsz hhit hdr
  have hwl' := zm8 hsz.1
  rw [show dnI (j + 1) = (j : Int) from rfl]
  refine goA ?_
  refine l_w rfl (zay rfl rfl (fun w' hw' => qex (h.keep hw') 3 h3)) ?_
  refine goA ?_
  rw [aF]
  refine l_w rfl (zjb (xs := wrV p) rfl (by rw [hwl']; rfl) (fun w' hw' => zbe hrow (fun h => h) hw')) ?_
  refine zal rfl rfl fun b8 hb8 => ?_
  refine zaz rfl (zag (cs' := (wrV p).toArray) rfl rfl rfl (by rw [bR, hwl']; rfl) (zup _) (by rw [bR, hwl']; rfl)) fun _ => ?_
  refine goA ?_
  refine l_w rfl (zay rfl rfl (fun w' hw' => (qr1 hsz.1 (za7 (hw'.get (b := b8) (.head _))) :))) ?_
  refine goA ?_
  by_cases he : p.2 = at_
  ·rw [hhit he]
   refine goA ?_
   refine l_w rfl (zun (n := 512) rfl rfl rfl rfl) ?_
   refine goA ?_
   refine zb3 (m' := [rdI b8 p.1]) (fun w' hw' => hw'.imp (fun _ h => h) (fun hp => ⟨zuq (za7 hp), (bC.1 hp).1⟩) ((zfg _ _).ro _)) ?_
   exact zdq b8 rfl rfl rfl rfl trivial (.refl _) (by simp [zfg])
  ·refine goA ?_
   refine l_w rfl (zsx rfl rfl oQ) ?_
   refine goA ?_
   exact zav j ⟨rfl, rfl, by rw [qkw]; rfl, trivial⟩ ⟨oQ, fun q hq => by
    rw [hdr] at hq
    rcases aJ.1 hq with rfl | hq
    ·exact he
    ·exact hno q hq⟩ (fun w' hw' => hw'.pick [] rfl rfl) oQ
end Go.Proofs.YtkkfifhaobjicaaGreatDoor
namespace Go.Eng
open Go.RowKit
theorem zkv {P : Program} {l : zaq} {H : World → Prop} {x y : Operand} {T U ty : TypeId} {a b : Nat} (hx : evO l x = some (.int .u64 (a : Int))) (hy : evO l y = some (.int .u64 (b : Int))) : OV P (.binOp .add T x y U) ty l H (.int .u64 (((a + b) % 18446744073709551616 : Nat) : Int)) := zfm hx hy fun w => ze4 w (by rw [← jD]; exact zdf _)
end Go.Eng
namespace Go.Proofs.YtkkfifhaobjicaaGreatDoor
open Go.RowKit Go.Eng
set_option maxRecDepth 100000
set_option maxHeartbeats 40000000
def zin (k : Bys) (i : Nat) : Bool := decide (i / 8 < k.length) && decide ((k.getD (i / 8) 0).toNat / 2 ^ (i % 8) % 2 = 1)
def zis (on : List Bys) (ws : List (Bys × Nat)) (f : Nat → Bool) : Nat → List Bys
 | 0 => on
 | k + 1 => if f k then (zis on ws f k).set (ws.getD k ([], 0)).2 (ws.getD k ([], 0)).1 else zis on ws f k
theorem zga (on : List Bys) (ws : List (Bys × Nat)) (f : Nat → Bool) : ∀ k, (zis on ws f k).length = on.length
 | 0 => rfl
 | k + 1 => by
  rw [zis]
  split
  ·rw [bO, zga]
  ·exact zga on ws f k
theorem zji {D : Dsk} (ok : D.Ok) (f : Nat → Bool) : ∀ k, k ≤ D.wait.length → ∀ s ∈ zis D.on D.wait f k, s.length = 512
 | 0, _ => ok.size
 | k + 1, hk => fun s hs => by
  have hw := (ok.wsize _ (aR (show k < D.wait.length from hk))).1
  rw [zis] at hs
  split at hs
  ·rcases cC hs with hs | rfl
   ·exact zji ok f k oQ s hs
   ·rwa [aC, aB (show k < D.wait.length from hk)]
  ·exact zji ok f k oQ s hs
def ztm (D : Dsk) (keep : Bys) : Dsk := ⟨zis D.on D.wait (zin keep) D.wait.length, [], none, [], true⟩
def zrp (D : Dsk) : Dsk := { D with on := zis D.on D.wait (fun _ => true) D.wait.length, wait := [] }
def zgy (D : Dsk) : Nat × Dsk := match D.left with
 | none => (0, D)
 | some 0 => (4, ztm D D.keep)
 | some (n + 1) => (0, { D with left := some n })
theorem qmd {D : Dsk} (ok : D.Ok) (keep : Bys) : (ztm D keep).Ok :=
 ⟨zji ok _ _ (aX _), fun _ h => (nomatch h), by show (zis _ _ _ _).length ≤ _; rw [zga]; exact ok.many, fun n h => (nomatch h)⟩
theorem qio {D : Dsk} (ok : D.Ok) : (zrp D).Ok :=
 ⟨zji ok _ _ (aX _), fun _ h => (nomatch h), by show (zis _ _ _ _).length ≤ _; rw [zga]; exact ok.many, ok.left⟩
theorem zre {D : Dsk} (ok : D.Ok) : (zgy D).2.Ok := by
 unfold zgy
 split
 ·exact ok
 ·exact qmd ok _
 ·rename_i n hn
  exact ⟨ok.size, ok.wsize, ok.many, fun k hk => by cases hk; have := ok.left _ hn; omega⟩
theorem zp3 {L : List Bys} (hL : ∀ s ∈ L, s.length = 512) : (ze9 L).length = L.length * 512 := by
 induction L with
 | nil => rfl
 | cons x L ih =>
  have e : ze9 (x :: L) = zaf x ++ ze9 L := by simp [ze9]
  rw [e, aA, ih fun q hq => hL q (by simp [hq]), zap, hL x sQ, aZ]; omega
theorem zwp {l : List Bys} (h : ∀ s ∈ l, s.length = 512) {i : Nat} (hi : i < l.length) {s : Bys} (hs : s.length = 512) : put (ze9 l) (i * 512) (zaf s) = ze9 (l.set i s) := by
 have hsp : l.take i ++ (l[i] :: l.drop (i + 1)) = l := by rw [dG, bE]
 have e := zkq (l.take i) l[i] (l.drop (i + 1))
 rw [hsp] at e
 have hlt : (ze9 (l.take i)).length = i * 512 := by rw [zp3 fun s hs => h s (bX hs), aO, eQ oQ]
 have hset : l.set i s = l.take i ++ (s :: l.drop (i + 1)) := by rw [List.set_eq_take_append_cons_drop, if_pos hi]
 rw [hset, zkq, e]
 unfold put
 have hb : (zaf l[i]).length = 512 := by rw [zap, h _ (aR hi)]
 rw [zap, hs, ← hlt, fS, ← List.drop_drop, List.drop_left, ← hb, List.drop_left, aH]
theorem qbv {D : Dsk} (ok : D.Ok) {i : Nat} (hi : i < D.wait.length) {w : World} {b c : Nat} (hp : (own 189 513 (some (b, c)) D.wait.length (zc4 wrV D.wait)).prop w) : w.rangeAt b (i * 513) (wrV D.wait[i]) := fun j v hj => by
 have hsz : ∀ p ∈ D.wait, (wrV p).length = 513 := fun p hp => zm8 (ok.wsize p hp).1
 have hl : ∀ L : List (Bys × Nat), (∀ p ∈ L, (wrV p).length = 513) → (zc4 wrV L).length = L.length * 513 := by
  intro L
  induction L with
  | nil => intro _; rfl
  | cons x L ih =>
   intro hL
   rw [zgk, aA, ih fun q hq => hL q (by simp [hq]), hL x sQ, aZ]; omega
 have h5 : j < 513 := by have := (aM.1 hj).1; rwa [hsz _ (aR hi)] at this
 have hsp : D.wait.take i ++ (D.wait[i] :: D.wait.drop (i + 1)) = D.wait := by rw [dG, bE]
 have e : zc4 wrV (D.wait.take i ++ (D.wait[i] :: D.wait.drop (i + 1))) = zc4 wrV (D.wait.take i) ++ (wrV D.wait[i] ++ zc4 wrV (D.wait.drop (i + 1))) := by rw [zi5, zgk]
 rw [hsp] at e
 have h2 := zel hp (i * 513 + j) v ?_
 ·rwa [aF] at h2
 ·rw [e, dM (by rw [hl _ fun p hp => hsz p (bX hp), aO, eQ oQ]; omega), hl _ fun p hp => hsz p (bX hp), aO, eQ oQ, iI, cE (by rw [hsz _ (aR hi)]; exact h5)]
  exact hj
theorem qhv {p : Bys × Nat} (h5 : p.1.length = 512) : (wrV p)[512]? = some (.int .i64 (p.2 : Int)) := by
 rw [wrV, dM (by rw [zap]; omega), zap, h5]; rfl
theorem qcf (d : Dk) (ok : d.D.Ok) (keep : Bys) (hk : keep.length ≤ 1000000) (hwl : d.D.wait.length ≤ 1000000000) (w : World) (hw : ∀ it ∈ [dkI d], za1 it w) :
  Ct Tryz.prog 157 #[.pointer (some ⟨d.b, 0, none⟩), .string ⟨keep.toArray⟩] w (zan [dkI d]) (fun _ : Unit => .tuple #[]) (fun _ => True) (fun _ => [dkI { d with w := none, D := ztm d.D keep }]) := by
 refine zbb [_, _] _ Tryz.func157 rfl rfl hw (.cons (fun _ h => nomatch h) .nil) ?_
 simp only [zaa, Nat.reduceAdd]
 have hmany := ok.many
 have hkl := bal keep
 refine zlx (m' := dkL d) (fun w' hw' => by have := hw'.open1; rwa [bA] at this) ?_
 unfold dkL
 refine zfd (fun w' hw' => zas (hw'.item (own 189 513 d.w d.D.wait.length (zc4 wrV d.D.wait)) sQ).1) fun ⟨hv, hc⟩ => ?_
 have h3 : (zev d)[3]? = some (.slice (slA d.w) d.D.wait.length (slC d.w)) := by rw [← hv]; rfl
 have h2 : (zev d)[2]? = some (.slice (some ⟨d.onB, 0, none⟩) d.D.on.length d.D.on.length) := rfl
 refine goA ?_
 rw [hv]
 refine goA ?_
 refine zcp (α := Nat) (fun i => [(0, .pointer (some ⟨d.b, 0, none⟩)), (1, .string ⟨keep.toArray⟩), (9, .slice (slA d.w) d.D.wait.length (slC d.w)), (10, .int .i64 d.D.wait.length), (11, .int .i64 i)]) (fun i => i ≤ d.D.wait.length)
  (fun i => [pt d.onB (.cells (ze9 (zis d.D.on d.D.wait (zin keep) i)).toArray 187 (0, 0)), own 189 513 d.w d.D.wait.length (zc4 wrV d.D.wait), pt d.b (.cells (zev d).toArray 149 (0, 0))]) (fun i => d.D.wait.length - i) 0 ⟨rfl, rfl, rfl, rfl, rfl, trivial⟩ (aV _) (fun w' hw' => hw'.pick [1, 2, 0] rfl rfl) fun i hi => ?_
 by_cases hi2 : i < d.D.wait.length
 ·obtain ⟨bw, cw, hbw⟩ : ∃ b c, d.w = some (b, c) := by
   cases h : d.w with
   | none => rw [h, show slC none = 0 from rfl] at hc; omega
   | some bc => exact ⟨bc.1, bc.2, rfl⟩
  rw [hbw]
  have hrow := fun (w' : World) (hp : (own 189 513 (some (bw, cw)) d.D.wait.length (zc4 wrV d.D.wait)).prop w') => qbv ok hi2 hp
  have hsz := ok.wsize _ (aR hi2)
  have hgd : d.D.wait.getD i ([], 0) = d.D.wait[i] := by rw [aC, aB hi2]; rfl
  have hup : zis d.D.on d.D.wait (zin keep) (i + 1) = if zin keep i then (zis d.D.on d.D.wait (zin keep) i).set d.D.wait[i].2 d.D.wait[i].1 else zis d.D.on d.D.wait (zin keep) i := by rw [zis, hgd]
  have h512 := zji ok (zin keep) i hi
  have hal := zga d.D.on d.D.wait (zin keep) i
  generalize zis d.D.on d.D.wait (zin keep) i = L at hup h512 hal ⊢
  generalize d.D.wait[i] = p at hrow hsz hup
  have hwl' := zm8 hsz.1
  have hbl : (zaf p.1).length = 512 := by rw [zap, hsz.1]
  have hsl := zp3 h512
  refine goA ?_
  refine l_w rfl (zjb (xs := wrV p) rfl (by rw [hwl']; rfl) (fun w' hw' => by rw [aF]; exact hrow w' (hw'.item _ (.tail _ (.head _))).1)) ?_
  refine zal rfl rfl fun b5 hb5 => ?_
  refine goA ?_
  refine zaz rfl (zag (cs' := (wrV p).toArray) rfl rfl rfl (by rw [bR, hwl']; rfl) (zup _) (by rw [bR, hwl']; rfl)) fun _ => ?_
  refine zkj (zf9 ?_)
  refine zi7 ?_
  refine znq (w0 := w) (F := zan [dkI d]) (α := Unit) (fun _ => [(0, .pointer (some ⟨d.b, 0, none⟩)), (1, .string ⟨keep.toArray⟩), (9, .slice (slA (some (bw, cw))) d.D.wait.length (slC (some (bw, cw)))), (10, .int .i64 d.D.wait.length), (11, .int .i64 i), (5, .pointer (some ⟨b5, 0, none⟩)), (31, .bool (zin keep i))]) (fun _ => True)
   (fun _ => [pt b5 (.cells (wrV p).toArray 189 (0, 0)), pt d.onB (.cells (ze9 L).toArray 187 (0, 0)), own 189 513 (some (bw, cw)) d.D.wait.length (zc4 wrV d.D.wait), pt d.b (.cells (zev d).toArray 149 (0, 0))]) ?_ fun _ _ => ?_
  ·have hkb : zin keep i = (decide (i / 8 < keep.length) && decide ((keep.getD (i / 8) 0).toNat / 2 ^ (i % 8) % 2 = 1)) := rfl
   by_cases h8 : i / 8 < keep.length
   ·have h8' : i / 8 < (⟨keep.toArray⟩ : ByteArray).size := by rw [hkl]; exact h8
    have hget : ((⟨keep.toArray⟩ : ByteArray)[i / 8]).toNat = (keep.getD (i / 8) 0).toNat := by
     rw [aC, aB h8]; rfl
    have hb := (keep.getD (i / 8) 0).toNat_lt
    rw [decide_eq_true h8, fG] at hkb
    rw [hkb]
    generalize (keep.getD (i / 8) 0).toNat = c at hget hb
    have hq : c / 2 ^ (i % 8) < 256 := cI (dK _ _) hb
    rw [← hget] at hq ⊢
    generalize hQ : ((⟨keep.toArray⟩ : ByteArray)[i / 8]).toNat / 2 ^ (i % 8) = q at hq
    refine goA ?_
    simp only [hQ]
    refine goA ?_
    refine zd5 () ⟨rfl, rfl, rfl, rfl, rfl, rfl, ?_, trivial⟩ trivial (fun w' hw' => hw')
    refine congrArg (fun z => some (Value.bool z)) ?_
    rw [jR]
    by_cases h1 : q % 2 = 1
    ·rw [decide_eq_true h1, h1]; rfl
    ·rw [decide_eq_false h1, beq_eq_false_iff_ne]; omega
   ·rw [decide_eq_false h8, dL] at hkb
    rw [hkb]
    have h8' : ¬ i / 8 < (⟨keep.toArray⟩ : ByteArray).size := by rw [hkl]; exact h8
    refine goA ?_
    exact zd5 () ⟨rfl, rfl, rfl, rfl, rfl, rfl, rfl, trivial⟩ trivial (fun w' hw' => hw')
  ·cases hb : zin keep i with
   | true =>
    rw [hb, if_pos rfl] at hup
    refine zde [1, 0, 2, 3] rfl rfl ?_
    refine goA ?_
    refine zao [0, 1, 2, 3] 9 rfl rfl kQ ?_
    (repeat first | refine dAv [5, 7] rfl rfl rfl ?_ | refine dno [5, 7] rfl rfl rfl ?_ | refine dT [5, 7] rfl rfl rfl rfl ?_ | refine dF [5, 7] rfl rfl rfl rfl ?_)
    refine d_v [7] rfl rfl kQ (fun _ h => goH h) rfl rfl (zcl rfl rfl (.tail _ (.head _)) (by rw [eP]; exact qhv hsz.1)) ?_
    (repeat first | refine dAv [7] rfl rfl rfl ?_ | refine dno [7] rfl rfl rfl ?_ | refine dT [7] rfl rfl rfl rfl ?_ | refine dF [7] rfl rfl rfl rfl ?_)
    refine goV rfl rfl (zjb (xs := zaf p.1) rfl (by rw [hbl]; rfl) (fun w' hw' => zuq (za7 (hw'.get (b := b5) (.tail _ (.head _)))))) ?_
    refine goE ?_
    refine zdm ⟨kQ, kQ⟩ rfl rfl (zgv (V := zaf p.1) rfl rfl rfl rfl (by rw [hbl]; rfl) (zeo _) (by rw [hbl, hsl, hal]; omega)) fun _ => ?_
    rw [aF, zwp h512 (by rw [hal]; exact hsz.2) hsz.1, ← hup]
    refine goA ?_
    exact zav (i + 1) ⟨rfl, rfl, rfl, rfl, rfl, trivial⟩ hi2 (fun w' hw' => hw'.pick [0, 2, 3] rfl rfl) oQ
   | false =>
    rw [hb, if_neg dQ] at hup
    refine goA ?_
    exact zav (i + 1) ⟨rfl, rfl, rfl, rfl, rfl, trivial⟩ hi2 (fun w' hw' => by rw [hup]; exact hw'.sub (.cons _ (.refl _))) oQ
 ·obtain rfl : i = d.D.wait.length := oQ
  refine goA ?_
  refine zaz rfl (zai (zda _ _ _ _) (zah rfl rfl rfl rfl rfl rfl (show (3 : Nat) < 6 from dQ))) fun _ => ?_
  refine goA ?_
  refine zaz rfl (zah rfl rfl rfl rfl rfl rfl (show (4 : Nat) < 6 from dQ)) fun _ => ?_
  refine goA ?_
  refine zez (m' := [pt d.b (.cells [.int .i64 (zo5 d.D.left), .string ⟨d.D.keep.toArray⟩, .slice (some ⟨d.onB, 0, none⟩) d.D.on.length d.D.on.length, .slice none 0 0, .bool true, .int .u64 (d.acts : Nat)].toArray 149 (0, 0)), pt d.onB (.cells (ze9 (zis d.D.on d.D.wait (zin keep) d.D.wait.length)).toArray 187 (0, 0))]) (fun w' hw' => hw'.sub (.cons_cons _ (.cons_cons _ (.cons _ (.refl _))))) ?_
  refine zaz rfl (zgv (V := [.int .i64 (-1), .string ⟨#[]⟩]) rfl rfl rfl rfl rfl rfl (show (0 + 2 : Nat) ≤ 6 from dQ)) fun _ => ?_
  refine goA ?_
  have hcl : zev { d with w := none, D := ztm d.D keep } = put [.int .i64 (zo5 d.D.left), .string ⟨d.D.keep.toArray⟩, .slice (some ⟨d.onB, 0, none⟩) d.D.on.length d.D.on.length, .slice none 0 0, .bool true, .int .u64 (d.acts : Nat)] 0 [.int .i64 (-1), .string ⟨#[]⟩] := by
   show [_, _, Value.slice _ (zis d.D.on d.D.wait (zin keep) d.D.wait.length).length (zis d.D.on d.D.wait (zin keep) d.D.wait.length).length, _, _, _] = _
   rw [zga]; rfl
  refine zb3 (m' := [dkI { d with w := none, D := ztm d.D keep }]) (fun w' hw' => Hp.close1 (m := []) (zrn _) ?_) (zl6 () rfl rfl trivial (.refl _) (by simp [dkI, zad]))
  rw [bA]
  unfold dkL
  rw [hcl]
  exact (zd6 189 513 hw').pick [1, 2, 0] rfl rfl
theorem zvd {d : Dk} {w : World} (h : (dkI d).prop w) (i : Nat) {v : Value} (hv : (zev d)[i]? = some v) : w.cell? ⟨d.b, i, none⟩ = some v :=
 zdv (h.1 (pt d.b (.cells (zev d).toArray 149 (0, 0))) (.head _)).1 (by rw [eP]; exact hv)
theorem zs9 {d : Dk} {w w0 : World} {F : Nat → Prop} (h : Hp w0 F [dkI d] w) : Hp w0 F (dkL d) w := by
 have := Hp.open1 (m := []) h
 rwa [bA] at this
theorem zk6 {d : Dk} {w w0 : World} {F : Nat → Prop} {m : List Eng.Item} (h : Hp w0 F (dkL d ++ m) w) : Hp w0 F (dkI d :: m) w := Hp.close1 (zrn _) h
def zj6 (d : Dk) (D' : Dsk) (d' : Dk) : Prop := d'.b = d.b ∧ d'.onB = d.onB ∧ d'.D = D'
theorem zuz (d : Dk) (ok : d.D.Ok) (hkl : d.D.keep.length ≤ 1000000) (hwl : d.D.wait.length ≤ 1000000000) (w : World) (hw : ∀ it ∈ [dkI d], za1 it w) :
  Ct Tryz.prog 118 #[.pointer (some ⟨d.b, 0, none⟩)] w (zan [dkI d]) (fun _ : Dk => .int .i64 ((zgy d.D).1 : Nat)) (zj6 d (zgy d.D).2) (fun d' => [dkI d']) := by
 refine zbb [_] _ Tryz.func118 rfl rfl hw (.cons (fun _ h => nomatch h) .nil) ?_
 simp only [zaa]
 refine goA ?_
 refine l_w rfl (zay rfl rfl (fun w' hw' => zvd (hw'.item _ (.head _)).1 0 rfl)) ?_
 cases hl : d.D.left with
 | some n =>
  have hn := ok.left n hl
  rw [show zo5 (some n) = (n : Int) from rfl]
  cases n with
  | zero =>
   have ha : zgy d.D = (4, ztm d.D d.D.keep) := by unfold zgy; rw [hl]
   rw [ha]
   refine goA ?_
   refine l_w rfl (zay rfl rfl (fun w' hw' => zvd (hw'.item _ (.head _)).1 1 rfl)) ?_
   refine lCu [dkI d] rfl (by first | (simp [zac, zab, zdn]; done) | (intro it hm; (iterate 6 (all_goals try (rcases hm with _ | ⟨_, hm⟩))) <;> first | exact zad _ | exact zac _ _ _ | exact zab _ _ _ _ _ _)) (fun w1 hw1 hh1 ha1 => qcf d ok d.D.keep hkl hwl w1 hh1) fun ⟨x, hx⟩ => ?_
   refine goA ?_
   exact zbs { d with w := none, D := ztm d.D d.D.keep } rfl rfl rfl ⟨rfl, rfl, rfl⟩ (.refl _) (by simp [dkI, zad])
  | succ n =>
   have ha : zgy d.D = (0, { d.D with left := some n }) := by unfold zgy; rw [hl]
   rw [ha]
   refine goA ?_
   refine l_w rfl (zay rfl rfl (fun w' hw' => zvd (hw'.item _ (.head _)).1 0 (congrArg (fun z => some (Value.int .i64 (zo5 z))) hl))) ?_
   rw [show zo5 (some (n + 1)) = ((n + 1 : Nat) : Int) from rfl]
   refine goA ?_
   refine l_w rfl (zay rfl rfl (fun w' hw' => zvd (hw'.item _ (.head _)).1 0 (congrArg (fun z => some (Value.int .i64 (zo5 z))) hl))) ?_
   rw [show zo5 (some (n + 1)) = ((n + 1 : Nat) : Int) from rfl]
   refine goA ?_
   refine zez (m' := dkL d) (fun w' hw' => zs9 hw') ?_
   unfold dkL
   refine zaz rfl (zah rfl rfl rfl rfl rfl rfl (show (0 : Nat) < 6 from dQ)) fun _ => ?_
   refine goA ?_
   refine l_w rfl (zkv rfl rfl) ?_
   refine goA ?_
   refine zaz rfl (zah rfl rfl rfl rfl rfl rfl (show (5 : Nat) < 6 from dQ)) fun _ => ?_
   refine goA ?_
   refine zb3 (m' := [dkI { d with acts := (d.acts + 1) % 18446744073709551616, D := { d.D with left := some n } }]) (fun w' hw' => zk6 (m := []) ?_) (zbs { d with acts := (d.acts + 1) % 18446744073709551616, D := { d.D with left := some n } } rfl rfl rfl ⟨rfl, rfl, rfl⟩ (.refl _) (by simp [dkI, zad]))
   rw [bA]
   exact hw'
 | none =>
  have ha : zgy d.D = (0, d.D) := by unfold zgy; rw [hl]
  rw [ha, show zo5 none = -1 from rfl]
  refine goA ?_
  refine l_w rfl (zay rfl rfl (fun w' hw' => zvd (hw'.item _ (.head _)).1 0 (congrArg (fun z => some (Value.int .i64 (zo5 z))) hl))) ?_
  rw [show zo5 none = -1 from rfl]
  refine goA ?_
  refine zez (m' := dkL d) (fun w' hw' => zs9 hw') ?_
  unfold dkL
  refine goA ?_
  refine l_w rfl (zkv rfl rfl) ?_
  refine goA ?_
  refine zaz rfl (zah rfl rfl rfl rfl rfl rfl (show (5 : Nat) < 6 from dQ)) fun _ => ?_
  refine goA ?_
  refine zb3 (m' := [dkI { d with acts := (d.acts + 1) % 18446744073709551616 }]) (fun w' hw' => zk6 (m := []) ?_) (zbs { d with acts := (d.acts + 1) % 18446744073709551616 } rfl rfl rfl ⟨rfl, rfl, rfl⟩ (.refl _) (by simp [dkI, zad]))
  rw [bA]
  exact hw'
def zbz (D : Dsk) (at_ : Nat) (s : Bys) : Nat × Dsk :=
 if D.dead then (4, D) else if ¬ at_ < D.on.length then (2, D) else if s.length ≠ 512 then (2, D) else
 if (zgy D).1 = 0 then (0, { (zgy D).2 with wait := (zgy D).2.wait ++ [(s, at_)] }) else zgy D
def zb6 (D : Dsk) : Nat × Dsk := if D.dead then (4, D) else if (zgy D).1 = 0 then (0, zrp (zgy D).2) else zgy D
theorem zjh {D : Dsk} (h : (zgy D).1 = 0) : (zgy D).2.wait = D.wait ∧ (zgy D).2.on = D.on ∧ (zgy D).2.dead = D.dead ∧ (zgy D).2.keep = D.keep := by
 unfold zgy at h ⊢
 split
 ·exact ⟨rfl, rfl, rfl, rfl⟩
 ·rename_i hl
  rw [hl] at h; cases h
 ·exact ⟨rfl, rfl, rfl, rfl⟩
theorem zkf (d : Dk) (ok : d.D.Ok) (hkl : d.D.keep.length ≤ 1000000) (hwl : d.D.wait.length ≤ 1000000000) (w : World) (hw : ∀ it ∈ [dkI d], za1 it w) :
  Ct Tryz.prog 78 #[.pointer (some ⟨d.b, 0, none⟩)] w (zan [dkI d]) (fun _ : Dk => .int .i64 ((zb6 d.D).1 : Nat)) (zj6 d (zb6 d.D).2) (fun d' => [dkI d']) := by
 refine zbb [_] _ Tryz.func78 rfl rfl hw (.cons (fun _ h => nomatch h) .nil) ?_
 simp only [zaa]
 refine goA ?_
 refine lPu rfl (fun w1 hw1 => zkp d w1 (za1.of (hw1.item _ (.head _)) (zad _))) ?_
 unfold zb6
 cases hd : d.D.dead with
 | true =>
  simp only [if_true]
  refine goA ?_
  exact zbs d rfl rfl rfl ⟨rfl, rfl, rfl⟩ (.refl _) (by simp [dkI, zad])
 | false =>
  simp only [bU, if_false]
  refine goA ?_
  refine lCu [dkI d] rfl (by first | (simp [zac, zab, zdn]; done) | (intro it hm; (iterate 6 (all_goals try (rcases hm with _ | ⟨_, hm⟩))) <;> first | exact zad _ | exact zac _ _ _ | exact zab _ _ _ _ _ _)) (fun w1 hw1 hh1 ha1 => zuz d ok hkl hwl w1 hh1) fun ⟨x, hx⟩ => ?_
  have hok := zre ok
  by_cases he : (zgy d.D).1 = 0
  ·obtain ⟨hwt, hon, hdd, hkk⟩ := zjh he
   rw [if_pos he, he]
   dsimp only
   obtain ⟨h1, h2, h3⟩ := hx
   rw [← h3] at hwt hon hdd hkk hok ⊢
   rw [← h1]
   have hwl2 : x.D.wait.length ≤ 1000000000 := by rw [hwt]; exact hwl
   refine goA ?_
   refine zez (m' := dkL x) (fun w' hw' => zs9 hw') ?_
   unfold dkL
   refine zd4 (fun w' hw' => zas (hw'.item (own 189 513 x.w x.D.wait.length (zc4 wrV x.D.wait)) sQ).1) fun ⟨hv, hc⟩ => ?_
   refine goA ?_
   rw [hv]
   refine goA ?_
   refine zcp (α := Nat) (fun i => [(0, .pointer (some ⟨x.b, 0, none⟩)), (20, .slice (slA x.w) x.D.wait.length (slC x.w)), (21, .int .i64 x.D.wait.length), (22, .int .i64 i)]) (fun i => i ≤ x.D.wait.length)
    (fun i => [pt x.onB (.cells (ze9 (zis x.D.on x.D.wait (fun _ => true) i)).toArray 187 (0, 0)), own 189 513 x.w x.D.wait.length (zc4 wrV x.D.wait), pt x.b (.cells (zev x).toArray 149 (0, 0))]) (fun i => x.D.wait.length - i) 0 ⟨rfl, rfl, rfl, rfl, trivial⟩ (aV _) (fun w' hw' => hw'.pick [1, 2, 0] rfl rfl) fun i hi => ?_
   have hmany := hok.many
   by_cases hi2 : i < x.D.wait.length
   ·obtain ⟨bw, cw, hbw⟩ : ∃ b c, x.w = some (b, c) := by
     cases h : x.w with
     | none => rw [h, show slC none = 0 from rfl] at hc; omega
     | some bc => exact ⟨bc.1, bc.2, rfl⟩
    rw [hbw]
    have hrow := fun (w' : World) (hp : (own 189 513 (some (bw, cw)) x.D.wait.length (zc4 wrV x.D.wait)).prop w') => qbv hok hi2 hp
    have hsz := hok.wsize _ (aR hi2)
    have hgd : x.D.wait.getD i ([], 0) = x.D.wait[i] := by rw [aC, aB hi2]; rfl
    have hup : zis x.D.on x.D.wait (fun _ => true) (i + 1) = (zis x.D.on x.D.wait (fun _ => true) i).set x.D.wait[i].2 x.D.wait[i].1 := by rw [zis, hgd, if_pos rfl]
    have h512 := zji hok (fun _ => true) i hi
    have hal := zga x.D.on x.D.wait (fun _ => true) i
    generalize zis x.D.on x.D.wait (fun _ => true) i = L at hup h512 hal ⊢
    generalize x.D.wait[i] = p at hrow hsz hup
    have hwl' := zm8 hsz.1
    have hbl : (zaf p.1).length = 512 := by rw [zap, hsz.1]
    have hsl := zp3 h512
    refine goA ?_
    refine l_w rfl (zjb (xs := wrV p) rfl (by rw [hwl']; rfl) (fun w' hw' => by rw [aF]; exact hrow w' (hw'.item _ (.tail _ (.head _))).1)) ?_
    refine zal rfl rfl fun b6 hb6 => ?_
    refine zaz rfl (zag (cs' := (wrV p).toArray) rfl rfl rfl (by rw [bR, hwl']; rfl) (zup _) (by rw [bR, hwl']; rfl)) fun _ => ?_
    refine zkj (zf9 ?_)
    refine zde [1, 0, 2, 3] rfl rfl ?_
    refine goA ?_
    refine zao [0, 1, 2, 3] 9 rfl rfl kQ ?_
    (repeat first | refine dAv [5, 7] rfl rfl rfl ?_ | refine dno [5, 7] rfl rfl rfl ?_ | refine dT [5, 7] rfl rfl rfl rfl ?_ | refine dF [5, 7] rfl rfl rfl rfl ?_)
    refine d_v [7] rfl rfl kQ (fun _ h => goH h) rfl rfl (zcl rfl rfl (.tail _ (.head _)) (by rw [eP]; exact qhv hsz.1)) ?_
    (repeat first | refine dAv [7] rfl rfl rfl ?_ | refine dno [7] rfl rfl rfl ?_ | refine dT [7] rfl rfl rfl rfl ?_ | refine dF [7] rfl rfl rfl rfl ?_)
    refine goV rfl rfl (zjb (xs := zaf p.1) rfl (by rw [hbl]; rfl) (fun w' hw' => zuq (za7 (hw'.get (b := b6) (.tail _ (.head _)))))) ?_
    refine goE ?_
    refine zdm ⟨kQ, kQ⟩ rfl rfl (zgv (V := zaf p.1) rfl rfl rfl rfl (by rw [hbl]; rfl) (zeo _) (by rw [hbl, hsl, hal]; omega)) fun _ => ?_
    rw [aF, zwp h512 (by rw [hal]; exact hsz.2) hsz.1, ← hup]
    refine goA ?_
    exact zav (i + 1) ⟨rfl, rfl, rfl, rfl, trivial⟩ hi2 (fun w' hw' => hw'.pick [0, 2, 3] rfl rfl) oQ
   ·obtain rfl : i = x.D.wait.length := oQ
    refine goA ?_
    refine zaz rfl (zai (zda _ _ _ _) (zah rfl rfl rfl rfl rfl rfl (show (3 : Nat) < 6 from dQ))) fun _ => ?_
    refine goA ?_
    have hcl : (zev { x with w := none, D := zrp x.D }).toArray = (zev x).toArray.setIfInBounds (0 + 3) (.slice none 0 0) := by
     show #[_, _, Value.slice _ (zis x.D.on x.D.wait (fun _ => true) x.D.wait.length).length (zis x.D.on x.D.wait (fun _ => true) x.D.wait.length).length, _, _, _] = _
     rw [zga]; rfl
    refine zb3 (m' := [dkI { x with w := none, D := zrp x.D }]) (fun w' hw' => zk6 (m := []) ?_) (zbs { x with w := none, D := zrp x.D } rfl rfl rfl ⟨h1, h2, rfl⟩ (.refl _) (by simp [dkI, zad]))
    rw [bA]
    unfold dkL
    rw [hcl]
    exact (zd6 189 513 hw').pick [1, 2, 0] rfl rfl
  ·rw [if_neg he]
   refine goA ?_
   exact zbs x rfl rfl rfl hx (.refl _) (by simp [dkI, zad])
theorem qby {D : Dsk} (ok : D.Ok) (at_ : Nat) (s : Bys) : (zbz D at_ s).2.Ok := by
 unfold zbz
 split
 ·exact ok
 ·split
  ·exact ok
  ·rename_i hl
   split
   ·exact ok
   ·rename_i h5
    have h := zre ok
    split
    ·rename_i he
     obtain ⟨h1, h2, -⟩ := zjh he
     refine ⟨h.size, fun p hp => ?_, h.many, h.left⟩
     rcases aS.1 hp with hp | hp
     ·exact h.wsize p hp
     ·rw [aL] at hp
      subst hp
      refine ⟨by simpa using h5, ?_⟩
      show at_ < (zgy D).2.on.length
      rw [h2]
      simpa using hl
    ·exact h
theorem zix {D : Dsk} (ok : D.Ok) : (zb6 D).2.Ok := by
 unfold zb6
 split
 ·exact ok
 ·split
  ·exact qio (zre ok)
  ·exact zre ok
theorem zvf (d : Dk) (ok : d.D.Ok) (hkl : d.D.keep.length ≤ 1000000) (hwl : d.D.wait.length ≤ 1000000) (at_ : Nat) (hat : at_ < 9223372036854775808) (s : Bys) (a : Option Addr) (c : Nat) (hsl : s.length ≤ 1000000) (w : World) (hw : ∀ it ∈ [dkI d], za1 it w) (hr : ∀ w', Fr (zan [dkI d]) w w' → Rd w' a (zaf s)) :
  Ct Tryz.prog 77 #[.pointer (some ⟨d.b, 0, none⟩), .int .i64 at_, .slice a s.length c] w (zan [dkI d]) (fun _ : Dk => .int .i64 ((zbz d.D at_ s).1 : Nat)) (zj6 d (zbz d.D at_ s).2) (fun d' => [dkI d']) := by
 refine zbb [_, _, _] _ Tryz.func77 rfl rfl hw (.cons (fun _ h => nomatch h) .nil) ?_
 simp only [zaa, Nat.reduceAdd]
 have hmany := ok.many
 refine goA ?_
 refine lPu rfl (fun w1 hw1 => zkp d w1 (za1.of (hw1.item _ (.head _)) (zad _))) ?_
 refine goA ?_
 refine lPu rfl (fun w1 hw1 => zoz d at_ hat w1 (za1.of (hw1.item _ (.head _)) (zad _))) ?_
 refine goA ?_
 obtain ⟨e1, he1⟩ : ∃ e, (if d.D.dead then 4 else 0 : Nat) = e := ⟨_, rfl⟩
 obtain ⟨e2, he2⟩ : ∃ e, (if at_ < d.D.on.length then 0 else 2 : Nat) = e := ⟨_, rfl⟩
 obtain ⟨e3, he3⟩ : ∃ e, (if s.length = 512 then 0 else 2 : Nat) = e := ⟨_, rfl⟩
 rw [he1, he2]
 refine zcr 16 _ (.bool (decide (s.length = 512))) rfl (congrArg Value.bool (by by_cases h : s.length = 512 <;> simp [h]; omega)) ?_
 refine lPu rfl (fun w1 hw1 => zfz (decide (s.length = 512)) 2 w1) ?_
 refine zcr 17 _ (.int .i64 (e3 : Nat)) rfl (by rw [← he3]; by_cases h : s.length = 512 <;> simp [h]) ?_
 refine zaz rfl (zba rfl rfl rfl rfl rfl rfl) fun ⟨bq, hbq⟩ => ?_
 refine lPu rfl (fun w1 hw1 => zke [e1, e2, e3] (some ⟨bq, 0, none⟩) 3 sQ w1 (zbl (o := some (bq, 3)) (hw1.item _ (.head _)).1)) ?_
 have hfe : zii [e1, e2, e3] = if e1 ≠ 0 then e1 else if e2 ≠ 0 then e2 else e3 := by
  unfold zii
  by_cases h1 : e1 = 0
  ·by_cases h2 : e2 = 0
   ·by_cases h3 : e3 = 0
    ·simp [h1, h2, h3]
    ·simp [h1, h2, h3]
   ·simp [h1, h2]
  ·simp [h1]
 by_cases hbad : (d.D.dead = false ∧ at_ < d.D.on.length) ∧ s.length = 512
 ·obtain ⟨⟨hd, hl⟩, h5⟩ := hbad
  have hW : zbz d.D at_ s = if (zgy d.D).1 = 0 then (0, { (zgy d.D).2 with wait := (zgy d.D).2.wait ++ [(s, at_)] }) else zgy d.D := by
   unfold zbz
   rw [hd, if_neg dQ, if_neg (by simp [hl]), if_neg (by simp [h5])]
  have hf0 : zii [e1, e2, e3] = 0 := by
   rw [hfe, ← he1, ← he2, ← he3, hd, if_pos hl, if_pos h5]; rfl
  rw [hf0, hW]
  refine za0 [1] rfl rfl ?_
  refine goA ?_
  refine lCu [dkI d] rfl (by first | (simp [zac, zab, zdn]; done) | (intro it hm; (iterate 6 (all_goals try (rcases hm with _ | ⟨_, hm⟩))) <;> first | exact zad _ | exact zac _ _ _ | exact zab _ _ _ _ _ _)) (fun w1 hw1 hh1 ha1 => zuz d ok hkl oQ w1 hh1) fun ⟨x, hx⟩ => ?_
  have hok := zre ok
  by_cases he : (zgy d.D).1 = 0
  ·obtain ⟨hwt, hon, hdd, hkk⟩ := zjh he
   rw [if_pos he, he]
   dsimp only
   obtain ⟨h1, h2, h3⟩ := hx
   rw [← h3] at hwt hon hdd hkk hok ⊢
   have hwl2 : x.D.wait.length ≤ 1000000 := by rw [hwt]; exact hwl
   rw [← h1]
   refine goA ?_
   refine zlx (m' := dkL x) (fun w' hw' => zs9 hw') ?_
   unfold dkL
   have hl5 : (zaf s).length = 512 := by rw [zap, h5]
   have hwv : (wrV (s, at_)).length = 513 := zm8 h5
   obtain ⟨b, off, rfl, -⟩ := (hr w (.refl _ _)).at_ (fun e => by have := congrArg List.length e; rw [zap, h5] at this; cases this)
   have hrow : ∀ {m : List Eng.Item} (w' : World), Hp w (zan [dkI d]) m w' → w'.rangeAt b off (zaf s) := fun w' hw' => by
    obtain ⟨b2, off2, e, h6⟩ := (hr w' hw'.fr).at_ (fun e => by rw [e] at hl5; cases hl5)
    cases e
    exact h6
   refine zde [2, 0, 1] rfl rfl ?_
   refine zao [1, 2] 14 rfl rfl kQ ?_
   (repeat first | refine dAv [6, 7, 9] rfl rfl rfl ?_ | refine dno [6, 7, 9] rfl rfl rfl ?_ | refine dT [6, 7, 9] rfl rfl rfl rfl ?_ | refine dF [6, 7, 9] rfl rfl rfl rfl ?_)
   refine d_v [7, 9] rfl rfl kQ (fun _ h => goH h) rfl rfl (zw3 (n := 512) (k := s.length) rfl rfl oQ) ?_
   refine d_v [9] rfl rfl kQ (fun _ h => goH h) rfl rfl (zjb (xs := zaf s) rfl (by rw [hl5]; rfl) (fun w' hw' => hrow w' hw')) ?_
   refine goV rfl rfl (zha (L := [(0, 512, .agg (zaf s).toArray), (512, 1, .int .i64 (at_ : Int))]) rfl rfl rfl rfl (by simp [zdi, Value.cells, hl5])) ?_
   refine zxw 37 _ (.agg (wrV (s, at_)).toArray) rfl ?_ ?_
   ·show Value.agg ((over (over _ 0 (zaf s)) 512 [Value.int .i64 (at_ : Int)]).toArray) = _
    have e : ∀ z : List Value, z.length = 513 → over (over z 0 (zaf s)) 512 [Value.int .i64 (at_ : Int)] = wrV (s, at_) := fun z hz => by
     have h1 : over z 0 (zaf s) = zaf s ++ z.drop 512 := by
      unfold over; rw [hl5]; simp
     rw [h1]
     unfold over wrV
     rw [List.take_append_of_le_length oQ, cA oQ, gG (by simp [hl5, hz])]
     simp
    rw [e _ rfl]
   refine zaw 10 ⟨kQ, dQ⟩ rfl rfl (zba (L := [(0, 513, .agg (wrV (s, at_)).toArray)]) rfl rfl rfl rfl rfl (qsl (by rw [bR, hwv]) dQ)) (fun _ _ h => goH h) fun ⟨bp, hbp⟩ => ?_
   refine goE ?_
   refine zaw 11 ⟨kQ, dQ⟩ rfl rfl (zai (zce _ _ _) (zdh (news := wrV (s, at_)) rfl rfl rfl rfl rfl rfl (by rw [hwv]) (zup _) oQ (fun w' hw' j v hj => by rw [zc9, aF]; refine zbm (hw'.item _ (.tail _ (.head _))).1 j v ?_; rw [qsj (by rw [zcw, aG, fZ, hwv])]; exact hj))) (fun _ _ h => goH h) fun o' => ?_
   refine goE ?_
   refine zdm ⟨kQ, kQ⟩ rfl rfl (zai (zda _ _ _ _) (zah rfl rfl rfl rfl (zc5 _ _) (zdj _ _) (show (3 : Nat) < 6 from dQ))) fun _ => ?_
   refine goA ?_
   have hrw : zc4 wrV x.D.wait ++ wrV (s, at_) = zc4 wrV (x.D.wait ++ [(s, at_)]) := by rw [zi5, qg2]
   have hlw : x.D.wait.length + 1 = (x.D.wait ++ [(s, at_)]).length := by simp
   rw [hrw, hlw]
   refine zb3 (m' := [dkI { x with w := o', D := { x.D with wait := x.D.wait ++ [(s, at_)] } }]) (fun w' hw' => zk6 (m := []) ?_) (zbs { x with w := o', D := { x.D with wait := x.D.wait ++ [(s, at_)] } } rfl rfl rfl ⟨h1, h2, rfl⟩ (.refl _) (by simp [dkI, zad]))
   rw [bA]
   unfold dkL
   exact hw'.pick [0, 3, 1] rfl rfl
  ·rw [if_neg he]
   refine goA ?_
   exact zbs x rfl rfl rfl hx (.refl _) (by simp [dkI, zad])
 ·have hne : zii [e1, e2, e3] ≠ 0 ∧ zbz d.D at_ s = (zii [e1, e2, e3], d.D) := by
   rw [hfe, ← he1, ← he2, ← he3]
   unfold zbz
   cases hd : d.D.dead with
   | true => simp
   | false =>
    by_cases hl : at_ < d.D.on.length
    ·have h5 : ¬ s.length = 512 := fun h => hbad ⟨⟨hd, hl⟩, h⟩
     simp [hl, h5]
    ·simp [hl]
  obtain ⟨hne, hW⟩ := hne
  rw [hW]
  generalize zii [e1, e2, e3] = e at hne
  refine goA ?_
  exact zbs d rfl rfl rfl ⟨rfl, rfl, rfl⟩ (.cons _ (.refl _)) (by simp [dkI, zad])
def zux (n : Nat) : Dsk := ⟨List.replicate n (List.replicate 512 0), [], none, [], false⟩
theorem qf3 {n : Nat} (hn : n ≤ 4096) : (zux n).Ok :=
 ⟨fun s hs => by rw [List.eq_of_mem_replicate hs, bV], fun _ h => (nomatch h), by show (List.replicate _ _).length ≤ _; rw [bV]; exact hn, fun _ h => (nomatch h)⟩
theorem qq3 (N j : Nat) (h : j < (zaf (List.replicate N 0)).toArray.size) : (zaf (List.replicate N 0)).toArray[j] = .int .u8 0 := by simp [zaf]
theorem qh0 (k : Nat) : zcw (.agg (zaf (List.replicate 512 0)).toArray) k = List.replicate k (.int .u8 0) := by
 unfold zcw
 apply List.ext_getElem?
 intro i
 rw [aN, gD]
 by_cases hi : i < k
 ·rw [dV hi, if_pos hi, cK]
  congr 1
  have hs : (Value.agg (zaf (List.replicate 512 0)).toArray).cells.size = 512 := by
   show (zaf (List.replicate 512 0)).toArray.size = 512
   rw [bR, zap, bV]
  have h5 : i % 512 < 512 := eM _ dQ
  rw [hs]
  show (zaf (List.replicate 512 0)).toArray[i % 512]! = _
  rw [getElem!_pos _ _ (by rw [bR, zap, bV]; exact h5)]
  exact qq3 512 _ _
 ·rw [cR (by simpa using hi), if_neg hi]; rfl
theorem qg6 (n : Nat) : ze9 (List.replicate n (List.replicate 512 0)) = List.replicate (n * 512) (.int .u8 0) := by
 have hb : zaf (List.replicate 512 0) = List.replicate 512 (.int .u8 0) := by simp [zaf]
 induction n with
 | zero => rfl
 | succ n ih =>
  have e : ze9 (List.replicate (n + 1) (List.replicate 512 0)) = zaf (List.replicate 512 0) ++ ze9 (List.replicate n (List.replicate 512 0)) := by
   rw [List.replicate_succ]; simp [ze9]
  rw [e, ih, hb, iQ]
  congr 1
  omega
theorem qca (n : Nat) (hn : 1 ≤ n ∧ n ≤ 4096) (w : World) :
  Ct Tryz.prog 49 #[.int .i64 n] w none' (fun d : Dk => .tuple #[.pointer (some ⟨d.b, 0, none⟩), .int .i64 0]) (fun d => d.D = zux n) (fun d => [dkI d]) := by
 refine zfv [_] Tryz.func49 rfl rfl ?_
 simp only [zaa]
 refine goA ?_
 refine zaz rfl (zy0 rfl rfl rfl rfl rfl oQ) fun ⟨ob, hob⟩ => ?_
 refine goA ?_
 refine zcr 13 _ (.agg #[.int .i64 (-1), .string ⟨#[]⟩, .slice (some ⟨ob, 0, none⟩) n n, .slice none 0 0, .bool false, .int .u64 0]) rfl rfl ?_
 refine zbt rfl rfl fun b hb => ?_
 refine goA ?_
 have hz : zcw (.agg (zaf (List.replicate 512 0)).toArray) (n * 512) = ze9 (zux n).on := by rw [qh0]; exact (qg6 n).symm
 refine zb3 (m' := [dkI ⟨b, ob, none, 0, zux n⟩]) (fun w' hw' => zk6 (m := []) ?_) (zdq ⟨b, ob, none, 0, zux n⟩ rfl rfl rfl rfl rfl (.refl _) (by simp [dkI, zad]))
 rw [bA]
 unfold dkL
 rw [← hz]
 show Hp w none' [pt b (.cells #[_, _, Value.slice _ (List.replicate n (List.replicate 512 0)).length (List.replicate n (List.replicate 512 0)).length, _, _, _] _ _), _, _] w'
 rw [bV]
 exact (zd6 189 513 hw').pick [1, 2, 0] rfl rfl
theorem zit (a a' : Option Addr) (n n' c c' : Nat) (x y : Bys) (hx : x.length = n) (hy : y.length = n') (w : World) (h1 : Rd w a (zaf x)) (h2 : Rd w a' (zaf y)) :
  Pu Tryz.prog 140 #[.slice a n c, .slice a' n' c'] w (.bool (decide (x = y))) := by
 refine zbh [_, _] Tryz.func140 rfl rfl ?_
 simp only [zaa, Nat.reduceAdd]
 refine goA ?_
 refine l_w rfl (zsw rfl hx.symm rfl rfl (fun w1 hw1 => h1.keep hw1)) ?_
 refine goA ?_
 refine l_w rfl (zsw rfl hy.symm rfl rfl (fun w1 hw1 => h2.keep hw1)) ?_
 refine goA ?_
 have e : seq ⟨x.toArray⟩ ⟨y.toArray⟩ = decide (x = y) := by
  rw [qjz, dA]
  simp
 rw [e]
 exact zcz rfl rfl rfl
def za9 (n : Nat) : Nat := max 1 ((n + 496) / 497)
def qsc (x : W32) : W32 := (x >>> 8 &&& 16711935#32) ||| ((x &&& 16711935#32) <<< 8)
def qjx (x : W32) : W32 := qsc x >>> 16 ||| qsc x <<< 16
theorem qgz (x : W32) (w : World) : Pu Tryz.prog 192 #[w32 x] w (w32 (qjx x)) := by
 refine zbh [_] Tryz.func192 rfl rfl ?_
 simp only [zaa]
 refine goW ?_
 exact zcz rfl rfl rfl
structure Sht where
 seq : Nat
 last : Bool
 text : Bys
abbrev zsl (s : Sht) : Array Value := #[.int .u64 (s.seq : Int), .bool s.last, .string ⟨s.text.toArray⟩]
def qh3 (s : Sht) : Bys := beN 8 s.seq ++ beN 1 (if s.last then 2 else 1) ++ beN 2 s.text.length ++ s.text ++ List.replicate (497 - s.text.length) 0
def zn3 (s : Sht) : Bys := qh3 s ++ beN 4 (qjx (zs4 (qh3 s))).toNat
theorem qa6 {s : Sht} (h : s.text.length ≤ 497) : (qh3 s).length = 508 := by
 simp only [qh3, aA, zam, bV]; omega
theorem qa7 {s : Sht} (h : s.text.length ≤ 497) : (zn3 s).length = 512 := by
 rw [zn3, aA, qa6 h, zam]
theorem zzf (s : Sht) (hq : s.seq < 18446744073709551616) (ht5 : s.text.length ≤ 497) (w : World) (ht : zqz w) :
  Ct Tryz.prog 181 #[.agg (zsl s)] w none' (fun o : Option (Nat × Nat) => .tuple #[slV o 512, .int .i64 0]) (fun _ => True) (fun o => [own 5 1 o 512 (zaf (zn3 s))]) := by
 refine zfv [_] Tryz.func181 rfl rfl ?_
 simp only [zaa]
 have htl := bal s.text
 refine goA ?_
 refine zbt rfl rfl fun b1 hb1 => ?_
 refine goA ?_
 obtain ⟨kd, hkd⟩ : ∃ k, (if s.last then 2 else 1 : Nat) = k := ⟨_, rfl⟩
 have hk2 : kd < 256 := by rw [← hkd]; split <;> omega
 refine goA ?_
 refine znq (w0 := w) (F := none') (α := Unit) (fun _ => [(1, .pointer (some ⟨b1, 0, none⟩)), (4, .int .u64 kd)]) (fun _ => True) (fun _ => [pt b1 (.cells (zsl s) 238 (0, 0))]) ?_ fun _ _ => ?_
 ·cases hl : s.last with
  | true =>
   rw [hl, if_pos rfl] at hkd
   subst hkd
   refine goA ?_
   exact zd5 () ⟨rfl, rfl, trivial⟩ trivial (fun w' hw' => hw')
  | false =>
   rw [hl, if_neg dQ] at hkd
   subst hkd
   refine goA ?_
   exact zd5 () ⟨rfl, rfl, trivial⟩ trivial (fun w' hw' => hw')
 ·have hX : qh3 s = beN 8 s.seq ++ beN 1 kd ++ beN 2 s.text.length ++ s.text ++ List.replicate (497 - s.text.length) 0 := by rw [← hkd]; rfl
  have hXl := qa6  ht5
  refine goA ?_
  refine zao [0] 15 rfl rfl kQ ?_
  refine goE ?_
  refine zaw 0 ⟨kQ, dQ⟩ rfl rfl (qdy rfl kQ rfl (fun w1 hw1 => zlh w1)) (fun _ _ h => goH h) fun ⟨b, hb⟩ => ?_
  refine goE ?_
  refine zaw 3 ⟨kQ, dQ⟩ rfl rfl (zg5 (pre := pks b none []) rfl kQ rfl (by simp [zac, zab]) (fun w1 hw1 hh1 ha1 => zmy b none [] s.seq hq dQ w1 hh1 ha1)) (fun _ _ h => goH h) fun ⟨o1, _⟩ => ?_
  rw [aI]
  refine goE ?_
  refine zaw 5 ⟨kQ, dQ⟩ rfl rfl (zg5 (pre := pks b o1 (beN 8 s.seq)) rfl kQ rfl (by simp [zac, zab]) (fun w1 hw1 hh1 ha1 => zd9 b o1 _ 1 kd (.inl rfl) oQ (by rw [zam]; decide) w1 hh1 ha1)) (fun _ _ h => goH h) fun ⟨o2, _⟩ => ?_
  refine goE ?_
  refine zaw 10 ⟨kQ, dQ⟩ rfl rfl (zg5 (pre := pks b o2 (beN 8 s.seq ++ beN 1 kd)) rfl kQ rfl (by simp [zac, zab]) (fun w1 hw1 hh1 ha1 => zd9 b o2 _ 2 s.text.length (.inr (.inl rfl)) oQ (by rw [aA, zam, zam]; decide) w1 hh1 ha1)) (fun _ _ h => goH h) fun ⟨o3, _⟩ => ?_
  refine goE ?_
  refine zaw 13 ⟨kQ, dQ⟩ rfl rfl (zg5 (pre := pks b o3 (beN 8 s.seq ++ beN 1 kd ++ beN 2 s.text.length)) rfl kQ rfl (by simp [zac, zab]) (fun w1 hw1 hh1 ha1 => zgm b o3 _ ⟨s.text.toArray⟩ (by rw [htl, aA, aA, zam, zam, zam]; omega) w1 hh1 ha1)) (fun _ _ h => goH h) fun ⟨o4, _⟩ => ?_
  refine goE ?_
  refine zei kQ ?_
  obtain ⟨Y, hY⟩ : ∃ Y, beN 8 s.seq ++ beN 1 kd ++ beN 2 s.text.length ++ s.text = Y := ⟨_, rfl⟩
  have hYl : Y.length = 11 + s.text.length := by rw [← hY]; simp only [aA, zam]
  refine zb3 (m' := pks b o4 Y ++ [pt b1 (.cells (zsl s) 238 (0, 0))]) (fun w' hw' => by rw [← hY]; exact hw') ?_
  rw [hY] at hX
  have hXY : Y ++ List.replicate (497 - s.text.length) 0 = qh3 s := hX.symm
  refine goA ?_
  rw [htl]
  refine lPu rfl (fun w1 hw1 => zi4 (497 - s.text.length) oQ w1) ?_
  have hrl : (⟨(List.replicate (497 - s.text.length) (0 : UInt8)).toArray⟩ : ByteArray).size = 497 - s.text.length := by rw [bal, bV]
  refine lCu (pks b o4 Y) rfl (by simp [zac, zab]) (fun w1 hw1 hh1 ha1 => zgm b o4 Y ⟨(List.replicate (497 - s.text.length) (0 : UInt8)).toArray⟩ (by rw [hrl, hYl]; omega) w1 hh1 ha1) fun ⟨o5, _⟩ => ?_
  refine zez (m' := pks b o5 (qh3 s)) (fun w' hw' => by rw [← hXY]; exact hw'.sub (.cons_cons _ (.cons_cons _ (.cons _ (.refl _))))) ?_
  generalize hXe : qh3 s = X at hXl
  have hPe : zn3 s = X ++ beN 4 (qjx (zs4 X)).toNat := by rw [zn3, hXe]
  rw [hPe]
  have hr32 := (qjx (zs4 X)).isLt
  refine goA ?_
  refine lCu (pks b o5 X) rfl (by simp [zac, zab]) (fun w1 hw1 hh1 ha1 => zfe b o5 X (by rw [hXl]; decide) w1 hh1 ha1) fun ⟨o6, _⟩ => ?_
  dsimp only
  refine zd4 (fun w hw => (zas (hw.item (own 5 1 o6 X.length (zaf X)) (.head _)).1)) fun ⟨hsl, hcap⟩ => ?_
  rw [hsl]
  refine goA ?_
  refine lPu rfl (fun w1 hw1 => zu9 (slA o6) X.length (slC o6) X rfl oQ w1 (zbl (hw1.item (own 5 1 o6 X.length (zaf X)) (.head _)).1) (ht.keep hw1)) ?_
  refine lPu rfl (fun w1 hw1 => qgz (zs4 X) w1) ?_
  refine goA ?_
  refine zez (m' := pks b o5 X) (fun w' hw' => hw'.sub (.cons _ (.cons_cons _ (.cons_cons _ (.refl _))))) ?_
  refine lCu (pks b o5 X) rfl (by simp [zac, zab]) (fun w1 hw1 hh1 ha1 => zd9 b o5 X 4 (qjx (zs4 X)).toNat (.inr (.inr rfl)) oQ (by rw [hXl]; decide) w1 hh1 ha1) fun ⟨o7, _⟩ => ?_
  refine lCu (pks b o7 (X ++ beN 4 (qjx (zs4 X)).toNat)) rfl (by simp [zac, zab]) (fun w1 hw1 hh1 ha1 => zfe b o7 _ (by rw [aA, hXl, zam]; decide) w1 hh1 ha1) fun ⟨o8, _⟩ => ?_
  have hzl : (X ++ beN 4 (qjx (zs4 X)).toNat).length = 512 := by rw [aA, hXl, zam]
  dsimp only
  generalize X ++ beN 4 (qjx (zs4 X)).toNat = Z at hzl ⊢
  rw [hzl]
  refine goA ?_
  exact zdq o8 rfl rfl rfl rfl trivial (.cons_cons _ (aD _)) (by simp [zab])
theorem zq5 (w : Nat) (o : Opn) : (opN w o).1 < 256 ^ w := by
 have h1 := zpk w o
 have h2 := qkq (opT w o).1
 have h3 : 256 ^ (opT w o).1.length ≤ 256 ^ w := cZ dQ h1
 exact bG h2 h3
theorem zf5 (n : Nat) (o : Opn) : (opT n o).2.1.length ≤ o.1.length := by
 unfold opT
 split
 ·exact aX _
 ·split
  ·exact aX _
  ·rw [aU]; omega
def qk8 (b : Bys) : Sht × Opn :=
 let o1 := opN 8 (b, false)
 let o2 := opN 1 o1.2
 let o3 := opN 2 o2.2
 let t := opT o3.1 o3.2
 (⟨o1.1, decide (o2.1 = 2), t.1⟩, t.2)
def zir (b : Bys) : Bool := !(qk8 b).2.2 && (decide ((qk8 b).1.text.length ≤ 497) && decide (zn3 (qk8 b).1 = b))
def qcz : Sht := ⟨0, false, []⟩
def zgd (b : Bys) : Sht := if zir b then (qk8 b).1 else qcz
theorem qg9 (s : Sht) (ht5 : ¬ s.text.length ≤ 497) (hz : s.text.length ≤ 1000000) (w : World) : Pu Tryz.prog 181 #[.agg (zsl s)] w (.tuple #[.slice none 0 0, .int .i64 6]) := by
 refine zbh [_] Tryz.func181 rfl rfl ?_
 simp only [zaa]
 have htl := bal s.text
 refine goA ?_
 refine zbt rfl rfl fun b1 hb1 => ?_
 refine goA ?_
 exact zhm rfl rfl rfl rfl
theorem zwr (a : Option Addr) (n c : Nat) (bs : Bys) (hn : bs.length = n) (hz : n ≤ 1000000) (w : World) (hr : Rd w a (zaf bs)) (ht : zqz w) :
  Pu Tryz.prog 160 #[.slice a n c] w (.tuple #[.agg (zsl (zgd bs)), .int .i64 ((if zir bs then 0 else 3 : Nat) : Int)]) := by
 refine zbh [_] Tryz.func160 rfl rfl ?_
 simp only [zaa]
 refine goA ?_
 refine zal rfl rfl fun b2 hb2 => ?_
 refine goA ?_
 refine ze7 rfl rfl kQ rfl (fun w1 hw1 => zk1 a n c bs hn oQ w1 (hr.keep hw1)) fun x hx => ?_
 obtain ⟨b, oD⟩ := x
 simp only at hx ⊢
 refine goA ?_
 obtain ⟨v1, s1, h1⟩ : ∃ v s, opN 8 (bs, false) = (v, s) := ⟨_, _, rfl⟩
 obtain ⟨v2, s2, h2⟩ : ∃ v s, opN 1 s1 = (v, s) := ⟨_, _, rfl⟩
 obtain ⟨v3, s3, h3⟩ : ∃ v s, opN 2 s2 = (v, s) := ⟨_, _, rfl⟩
 obtain ⟨t, s4, h4⟩ : ∃ v s, opT v3 s3 = (v, s) := ⟨_, _, rfl⟩
 have hR : qk8 bs = (⟨v1, decide (v2 = 2), t⟩, s4) := by
  unfold qk8
  simp only
  rw [h1]; simp only
  rw [h2]; simp only
  rw [h3]; simp only
  rw [h4]
 have l1 : s1.1.length ≤ n := by have := zf5 8 (bs, false); have e : (opT 8 (bs, false)).2 = s1 := congrArg Prod.snd h1; rw [e] at this; rw [← hn]; exact this
 have l2 : s2.1.length ≤ n := by have := zf5 1 s1; have e : (opT 1 s1).2 = s2 := congrArg Prod.snd h2; rw [e] at this; omega
 have l3 : s3.1.length ≤ n := by have := zf5 2 s2; have e : (opT 2 s2).2 = s3 := congrArg Prod.snd h3; rw [e] at this; omega
 have b1 : v1 < 18446744073709551616 := by have := zq5 8 (bs, false); rw [h1] at this; exact this
 have b2' : v2 < 256 := by have := zq5 1 s1; rw [h2] at this; exact this
 have b3 : v3 < 65536 := by have := zq5 2 s2; rw [h3] at this; exact this
 have b4 : t.length < 65536 := by have := zpk v3 s3; rw [h4] at this; simp only at this; omega
 have hsD : (own 5 1 oD n (zaf bs)).Stable none' := zab _ _ _ _ _ _
 generalize own 5 1 oD n (zaf bs) = D at hx hsD
 refine lCu [opI b (slA oD) (slC oD) (bs, false), D] rfl (by simp [zak, hsD]) (fun w1 hw1 hh1 ha1 => zyy v1 s1 h1 hsD hx (by simp only; omega) hh1 ha1) fun ⟨y1, hy1⟩ => ?_
 refine goA ?_
 refine lCu [opI b y1.1 y1.2 s1, D] rfl (by simp [zak, hsD]) (fun w1 hw1 hh1 ha1 => zij v2 s2 h2 hsD hy1 (.inl rfl) oQ hh1 ha1) fun ⟨y2, hy2⟩ => ?_
 refine goA ?_
 refine zcr 15 _ (.agg #[.int .u64 (v1 : Int), .bool (decide (v2 = 2)), .string ⟨#[]⟩]) rfl ?_ ?_
 ·have e : ((v2 : Int) == 2) = decide (v2 = 2) := by by_cases h : v2 = 2 <;> simp [h]; omega
  rw [e]; rfl
 dsimp only
 refine zal rfl rfl fun b5 hb5 => ?_
 refine zaz rfl (zag (cs' := #[.int .u64 (v1 : Int), .bool (decide (v2 = 2)), .string ⟨#[]⟩]) rfl rfl rfl rfl rfl rfl) fun _ => ?_
 refine goA ?_
 refine za0 [1, 2, 0, 3] rfl rfl ?_
 refine lCu [opI b y2.1 y2.2 s2, D] rfl (by simp [zak, hsD]) (fun w1 hw1 hh1 ha1 => zij v3 s3 h3 hsD hy2 (.inr (.inl rfl)) oQ hh1 ha1) fun ⟨y3, hy3⟩ => ?_
 refine goA ?_
 refine lCu [opI b y3.1 y3.2 s3, D] rfl (by simp [zak, hsD]) (fun w1 hw1 hh1 ha1 => zpf t s4 h4 hsD hy3 oQ hh1 ha1) fun ⟨y4, hy4⟩ => ?_
 dsimp only
 refine goA ?_
 refine za0 [2, 0, 1, 3] rfl rfl ?_
 refine zaz rfl (zah rfl rfl rfl rfl rfl rfl (show (2 : Nat) < 3 from dQ)) fun _ => ?_
 refine zez (m' := [pt b5 (.cells (zsl ⟨v1, decide (v2 = 2), t⟩) 238 (0, 0)), opI b y4.1 y4.2 s4, D, pt b2 (.cells (zsl qcz) 238 (0, 0))]) (fun w' hw' => hw') ?_
 refine goA ?_
 have hOk : zir bs = (!s4.2 && (decide (t.length ≤ 497) && decide (zn3 ⟨v1, decide (v2 = 2), t⟩ = bs))) := by unfold zir; rw [hR]
 by_cases h497 : t.length ≤ 497
 ·rw [decide_eq_true h497, fG] at hOk
  refine ze7 rfl rfl kQ rfl (fun w1 hw1 => zzf ⟨v1, decide (v2 = 2), t⟩ b1 h497 w1 (ht.keep hw1)) fun x hx => ?_
  refine zd4 (fun w hw => (zas (hw.item (own 5 1 x 512 (zaf (zn3 ⟨v1, decide (v2 = 2), t⟩))) (.head _)).1)) fun ⟨hsl, hcap⟩ => ?_
  have hpl : (zn3 ⟨v1, decide (v2 = 2), t⟩).length = 512 := qa7 h497
  rw [hsl]
  refine goA ?_
  refine lPu rfl (fun w1 hw1 => zew b y4.1 y4.2 s4 w1 (za1.of (hw1.item _ (.tail _ (.tail _ (.head _)))) (zak _ _ _ _))) ?_
  cases h42 : s4.2
  ·rw [h42, jN, fG] at hOk
   simp only [bU, if_false]
   refine goA ?_
   refine lPu rfl (fun w1 hw1 => zit (slA x) a 512 n (slC x) c (zn3 ⟨v1, decide (v2 = 2), t⟩) bs hpl hn w1 (zbl (hw1.item (own 5 1 x 512 (zaf (zn3 ⟨v1, decide (v2 = 2), t⟩))) (.head _)).1) (hr.keep hw1)) ?_
   by_cases hq : zn3 ⟨v1, decide (v2 = 2), t⟩ = bs
   ·rw [decide_eq_true hq] at hOk
    rw [decide_eq_true hq]
    refine goA ?_
    refine zaz rfl (zai (zg1 _ _ _ _ _ _) (zag (cs' := zsl ⟨v1, decide (v2 = 2), t⟩) rfl rfl rfl rfl rfl rfl)) fun _ => ?_
    refine goA ?_
    refine zhm rfl ⟨_, rfl, zar rfl (.head _)⟩ rfl ?_
    simp only [zgd, hOk, hR, if_true]; rfl
   ·rw [decide_eq_false hq] at hOk
    rw [decide_eq_false hq]
    refine goA ?_
    refine zaz rfl (zai (zg1 _ _ _ _ _ _) (zag (cs' := zsl qcz) rfl rfl rfl rfl rfl rfl)) fun _ => ?_
    refine goA ?_
    refine zhm rfl ⟨_, rfl, zar rfl (.head _)⟩ rfl ?_
    simp only [zgd, hOk, bU, if_false]; rfl
  ·rw [h42, iX, dL] at hOk
   simp only [if_true]
   refine goA ?_
   refine zaz rfl (zai (zg1 _ _ _ _ _ _) (zag (cs' := zsl qcz) rfl rfl rfl rfl rfl rfl)) fun _ => ?_
   refine goA ?_
   refine zhm rfl ⟨_, rfl, zar rfl (.head _)⟩ rfl ?_
   simp only [zgd, hOk, bU, if_false]; rfl
 ·rw [decide_eq_false h497, dL, jM] at hOk
  refine lPu rfl (fun w1 hw1 => qg9 ⟨v1, decide (v2 = 2), t⟩ h497 (by simp only; omega) w1) ?_
  refine goA ?_
  refine lPu rfl (fun w1 hw1 => zew b y4.1 y4.2 s4 w1 (za1.of (hw1.item _ (.tail _ (.head _))) (zak _ _ _ _))) ?_
  have herr : (((if s4.2 then 3 else 0 : Nat) : Int) != 0) = s4.2 := by cases s4.2 <;> rfl
  refine goA ?_
  rw [herr]
  cases h42 : s4.2
  ·refine goA ?_
   refine zaz rfl (zai (zdl _ _ _ _ _) (zag (cs' := zsl qcz) rfl rfl rfl rfl rfl rfl)) fun _ => ?_
   refine goA ?_
   refine zhm rfl ⟨_, rfl, zar rfl (.head _)⟩ rfl ?_
   simp only [zgd, hOk, bU, if_false]; rfl
  ·refine goA ?_
   refine zaz rfl (zai (zdl _ _ _ _ _) (zag (cs' := zsl qcz) rfl rfl rfl rfl rfl rfl)) fun _ => ?_
   refine goA ?_
   refine zhm rfl ⟨_, rfl, zar rfl (.head _)⟩ rfl ?_
   simp only [zgd, hOk, bU, if_false]; rfl
structure Hd where
 gen : Nat
 first : Nat
 secs : Nat
 note : Bys
structure Hd.Ok (h : Hd) : Prop where
 gen : h.gen < 18446744073709551616
 first : h.first < 18446744073709551616
 secs : h.secs < 65536
 note : h.note.length ≤ 64
abbrev hdA (h : Hd) : Array Value := #[.int .u64 (h.gen : Int), .int .u64 (h.first : Int), .int .i64 (h.secs : Int), .string ⟨h.note.toArray⟩]
def hdH (h : Hd) : Bys := beN 8 h.gen ++ beN 8 h.first ++ beN 2 h.secs ++ (beN 1 h.note.length ++ h.note) ++ List.replicate (489 - h.note.length) 0
def hdP (h : Hd) : Bys := hdH h ++ beN 4 (zs4 (hdH h)).toNat
theorem qfb {h : Hd} (hn : h.note.length ≤ 64) : (hdH h).length = 508 := by
 simp only [hdH, aA, zam, bV]; omega
theorem ztp {h : Hd} (hn : h.note.length ≤ 64) : (hdP h).length = 512 := by
 rw [hdP, aA, qfb hn, zam]
theorem zrr (s : Hd) (hs : s.Ok) (w : World) (ht : zqz w) :
  Ct Tryz.prog 162 #[.agg (hdA s)] w none' (fun o : Option (Nat × Nat) => slV o 512) (fun _ => True) (fun o => [own 5 1 o 512 (zaf (hdP s))]) := by
 refine zfv [_] Tryz.func162 rfl rfl ?_
 obtain ⟨hg, hf, hc, hn⟩ := hs
 simp only [zaa]
 have htl := bal s.note
 refine goA ?_
 refine zbt rfl rfl fun b1 hb1 => ?_
 refine goA ?_
 have hX : hdH s = beN 8 s.gen ++ beN 8 s.first ++ beN 2 s.secs ++ (beN 1 s.note.length ++ s.note) ++ List.replicate (489 - s.note.length) 0 := rfl
 have hXl := qfb hn
 refine zao [0] 15 rfl rfl kQ ?_
 refine goE ?_
 refine zaw 0 ⟨kQ, dQ⟩ rfl rfl (qdy rfl kQ rfl (fun w1 hw1 => zlh w1)) (fun _ _ h => goH h) fun ⟨b, hb⟩ => ?_
 refine goE ?_
 refine zaw 3 ⟨kQ, dQ⟩ rfl rfl (zg5 (pre := pks b none []) rfl kQ rfl (by simp [zac, zab]) (fun w1 hw1 hh1 ha1 => zmy b none [] s.gen hg dQ w1 hh1 ha1)) (fun _ _ h => goH h) fun ⟨o1, _⟩ => ?_
 rw [aI]
 refine goE ?_
 refine zaw 6 ⟨kQ, dQ⟩ rfl rfl (zg5 (pre := pks b o1 (beN 8 s.gen)) rfl kQ rfl (by simp [zac, zab]) (fun w1 hw1 hh1 ha1 => zmy b o1 _ s.first hf (by rw [zam]; decide) w1 hh1 ha1)) (fun _ _ h => goH h) fun ⟨o2, _⟩ => ?_
 refine goE ?_
 refine zaw 10 ⟨kQ, dQ⟩ rfl rfl (zg5 (pre := pks b o2 (beN 8 s.gen ++ beN 8 s.first)) rfl kQ rfl (by simp [zac, zab]) (fun w1 hw1 hh1 ha1 => zd9 b o2 _ 2 s.secs (.inr (.inl rfl)) oQ (by rw [aA, zam, zam]; decide) w1 hh1 ha1)) (fun _ _ h => goH h) fun ⟨o3, _⟩ => ?_
 refine goE ?_
 refine zaw 13 ⟨kQ, dQ⟩ rfl rfl (zg5 (pre := pks b o3 (beN 8 s.gen ++ beN 8 s.first ++ beN 2 s.secs)) rfl kQ rfl (by simp [zac, zab]) (fun w1 hw1 hh1 ha1 => qcu b o3 _ ⟨s.note.toArray⟩ (by rw [htl]; omega) (by rw [aA, aA, zam, zam, zam]; decide) w1 hh1 ha1)) (fun _ _ h => goH h) fun ⟨o4, _⟩ => ?_
 refine goE ?_
 refine zei kQ ?_
 obtain ⟨Y, hY⟩ : ∃ Y, beN 8 s.gen ++ beN 8 s.first ++ beN 2 s.secs ++ (beN 1 s.note.length ++ s.note) = Y := ⟨_, rfl⟩
 have hYl : Y.length = 19 + s.note.length := by rw [← hY]; simp only [aA, zam]; omega
 refine zb3 (m' := pks b o4 Y ++ [pt b1 (.cells (hdA s) 195 (0, 0))]) (fun w' hw' => by rw [← hY]; rw [htl] at hw'; exact hw') ?_
 rw [hY] at hX
 have hXY : Y ++ List.replicate (489 - s.note.length) 0 = hdH s := hX.symm
 refine goA ?_
 rw [htl]
 refine goA ?_
 refine lPu rfl (fun w1 hw1 => zi4 (489 - s.note.length) oQ w1) ?_
 have hrl : (⟨(List.replicate (489 - s.note.length) (0 : UInt8)).toArray⟩ : ByteArray).size = 489 - s.note.length := by rw [bal, bV]
 refine lCu (pks b o4 Y) rfl (by simp [zac, zab]) (fun w1 hw1 hh1 ha1 => zgm b o4 Y ⟨(List.replicate (489 - s.note.length) (0 : UInt8)).toArray⟩ (by rw [hrl, hYl]; omega) w1 hh1 ha1) fun ⟨o5, _⟩ => ?_
 refine zez (m' := pks b o5 (hdH s)) (fun w' hw' => by rw [← hXY]; exact hw'.sub (.cons_cons _ (.cons_cons _ (.cons _ (.refl _))))) ?_
 generalize hXe : hdH s = X at hXl
 have hPe : hdP s = X ++ beN 4 (zs4 X).toNat := by rw [hdP, hXe]
 rw [hPe]
 have hr32 := (zs4 X).isLt
 refine goA ?_
 refine lCu (pks b o5 X) rfl (by simp [zac, zab]) (fun w1 hw1 hh1 ha1 => zfe b o5 X (by rw [hXl]; decide) w1 hh1 ha1) fun ⟨o6, _⟩ => ?_
 dsimp only
 refine zd4 (fun w hw => (zas (hw.item (own 5 1 o6 X.length (zaf X)) (.head _)).1)) fun ⟨hsl, hcap⟩ => ?_
 rw [hsl]
 refine goA ?_
 refine lPu rfl (fun w1 hw1 => zu9 (slA o6) X.length (slC o6) X rfl oQ w1 (zbl (hw1.item (own 5 1 o6 X.length (zaf X)) (.head _)).1) (ht.keep hw1)) ?_
 refine goA ?_
 refine zez (m' := pks b o5 X) (fun w' hw' => hw'.sub (.cons _ (.cons_cons _ (.cons_cons _ (.refl _))))) ?_
 refine lCu (pks b o5 X) rfl (by simp [zac, zab]) (fun w1 hw1 hh1 ha1 => zd9 b o5 X 4 (zs4 X).toNat (.inr (.inr rfl)) oQ (by rw [hXl]; decide) w1 hh1 ha1) fun ⟨o7, _⟩ => ?_
 refine lCu (pks b o7 (X ++ beN 4 (zs4 X).toNat)) rfl (by simp [zac, zab]) (fun w1 hw1 hh1 ha1 => zfe b o7 _ (by rw [aA, hXl, zam]; decide) w1 hh1 ha1) fun ⟨o8, _⟩ => ?_
 have hzl : (X ++ beN 4 (zs4 X).toNat).length = 512 := by rw [aA, hXl, zam]
 dsimp only
 generalize X ++ beN 4 (zs4 X).toNat = Z at hzl ⊢
 rw [hzl]
 refine goA ?_
 exact zbs o8 rfl rfl rfl trivial (.cons_cons _ (aD _)) (by simp [zab])
def hdR (b : Bys) : Hd × Opn :=
 let o1 := opN 8 (b, false)
 let o2 := opN 8 o1.2
 let o3 := opN 2 o2.2
 let t := zfc o3.2
 (⟨o1.1, o2.1, o3.1, t.1⟩, t.2)
def zyv : Hd := ⟨0, 0, 0, []⟩
def hdF (b : Bys) : Bool := !(hdR b).2.2 && decide ((hdR b).1.note.length ≤ 64)
def hdT (b : Bys) : Hd := if hdF b then (hdR b).1 else zyv
def zq2 (b : Bys) : Bool := hdF b && decide (hdP (hdR b).1 = b)
theorem qgd (o : Opn) : (zfc o).1.length ≤ 255 := by
 obtain ⟨r, bad⟩ := o
 cases bad with
 | true => rw [zr3]; exact aV _
 | false =>
  cases r with
  | nil => rw [qc4]; exact aV _
  | cons x r =>
   by_cases h : r.length < x.toNat
   ·rw [zng h]; exact aV _
   ·rw [zpj h]
    have := zpk x.toNat (r, false)
    have := x.toNat_lt
    omega
theorem qpi {b : Nat} {a : Option Addr} {c : Nat} {st : Opn} {D : Eng.Item} (t : Bys) (st' : Opn) (he : zfc st = (t, st')) (hsD : D.Stable none') (hD : zjg D a c st.1) (hz : st.1.length ≤ 1000000000) {w : World} (hw : ∀ it ∈ [opI b a c st, D], za1 it w) (ha : [opI b a c st, D].Pairwise Eng.Item.Apart) :
  Ct Tryz.prog 180 #[.pointer (some ⟨b, 0, none⟩)] w (zan [opI b a c st, D]) (fun _ : Option Addr × Nat => .string ⟨t.toArray⟩) (fun p => zjg D p.1 p.2 st'.1) (fun p => [opI b p.1 p.2 st', D]) := by
 have := zyx b a c st D hsD hD hz w hw ha
 rw [he] at this; exact this
theorem zyc (a : Option Addr) (n c : Nat) (bs : Bys) (hn : bs.length = n) (hz : n ≤ 1000000) (w : World) (hr : Rd w a (zaf bs)) (ht : zqz w) :
  Pu Tryz.prog 159 #[.slice a n c] w (.tuple #[.agg (hdA (hdT bs)), .bool (zq2 bs)]) := by
 refine zbh [_] Tryz.func159 rfl rfl ?_
 simp only [zaa]
 refine goA ?_
 refine zal rfl rfl fun b2 hb2 => ?_
 refine goA ?_
 refine ze7 rfl rfl kQ rfl (fun w1 hw1 => zk1 a n c bs hn oQ w1 (hr.keep hw1)) fun x hx => ?_
 obtain ⟨b, oD⟩ := x
 simp only at hx ⊢
 refine goA ?_
 obtain ⟨v1, s1, h1⟩ : ∃ v s, opN 8 (bs, false) = (v, s) := ⟨_, _, rfl⟩
 obtain ⟨v2, s2, h2⟩ : ∃ v s, opN 8 s1 = (v, s) := ⟨_, _, rfl⟩
 obtain ⟨v3, s3, h3⟩ : ∃ v s, opN 2 s2 = (v, s) := ⟨_, _, rfl⟩
 obtain ⟨t, s4, h4⟩ : ∃ v s, zfc s3 = (v, s) := ⟨_, _, rfl⟩
 have hR : hdR bs = (⟨v1, v2, v3, t⟩, s4) := by
  unfold hdR
  simp only
  rw [h1]; simp only
  rw [h2]; simp only
  rw [h3]; simp only
  rw [h4]
 have l1 : s1.1.length ≤ n := by have := zf5 8 (bs, false); have e : (opT 8 (bs, false)).2 = s1 := congrArg Prod.snd h1; rw [e] at this; rw [← hn]; exact this
 have l2 : s2.1.length ≤ n := by have := zf5 8 s1; have e : (opT 8 s1).2 = s2 := congrArg Prod.snd h2; rw [e] at this; omega
 have l3 : s3.1.length ≤ n := by have := zf5 2 s2; have e : (opT 2 s2).2 = s3 := congrArg Prod.snd h3; rw [e] at this; omega
 have b1 : v1 < 18446744073709551616 := by have := zq5 8 (bs, false); rw [h1] at this; exact this
 have b2' : v2 < 18446744073709551616 := by have := zq5 8 s1; rw [h2] at this; exact this
 have b3 : v3 < 65536 := by have := zq5 2 s2; rw [h3] at this; exact this
 have b4 : t.length ≤ 255 := by have := qgd s3; rw [h4] at this; exact this
 have hsD : (own 5 1 oD n (zaf bs)).Stable none' := zab _ _ _ _ _ _
 generalize own 5 1 oD n (zaf bs) = D at hx hsD
 refine lCu [opI b (slA oD) (slC oD) (bs, false), D] rfl (by simp [zak, hsD]) (fun w1 hw1 hh1 ha1 => zyy v1 s1 h1 hsD hx (by simp only; omega) hh1 ha1) fun ⟨y1, hy1⟩ => ?_
 refine goA ?_
 refine lCu [opI b y1.1 y1.2 s1, D] rfl (by simp [zak, hsD]) (fun w1 hw1 hh1 ha1 => zyy v2 s2 h2 hsD hy1 oQ hh1 ha1) fun ⟨y2, hy2⟩ => ?_
 refine goA ?_
 refine lCu [opI b y2.1 y2.2 s2, D] rfl (by simp [zak, hsD]) (fun w1 hw1 hh1 ha1 => zij v3 s3 h3 hsD hy2 (.inr (.inl rfl)) oQ hh1 ha1) fun ⟨y3, hy3⟩ => ?_
 refine goA ?_
 refine lCu [opI b y3.1 y3.2 s3, D] rfl (by simp [zak, hsD]) (fun w1 hw1 hh1 ha1 => qpi t s4 h4 hsD hy3 oQ hh1 ha1) fun ⟨y4, hy4⟩ => ?_
 dsimp only
 refine goA ?_
 refine zcr 17 _ (.agg (hdA ⟨v1, v2, v3, t⟩)) rfl rfl ?_
 refine zal rfl rfl fun b5 hb5 => ?_
 refine zaz rfl (zag (cs' := hdA ⟨v1, v2, v3, t⟩) rfl rfl rfl rfl rfl rfl) fun _ => ?_
 refine goA ?_
 refine zez (m' := [pt b5 (.cells (hdA ⟨v1, v2, v3, t⟩) 195 (0, 0)), opI b y4.1 y4.2 s4, D, pt b2 (.cells (hdA zyv) 195 (0, 0))]) (fun w' hw' => hw') ?_
 refine za0 [3, 0, 1, 2] rfl rfl ?_
 refine lPu rfl (fun w1 hw1 => zew b y4.1 y4.2 s4 w1 (za1.of (hw1.item _ (.tail _ (.tail _ (.head _)))) (zak _ _ _ _))) ?_
 have htl := bal t
 have hFe : hdF bs = (!s4.2 && decide (t.length ≤ 64)) := by unfold hdF; rw [hR]
 cases h42 : s4.2
 ·rw [h42, jN, fG] at hFe
  simp only [bU, if_false]
  refine goA ?_
  rw [htl]
  have hgt : decide ((t.length : Int) > 64) = !decide (t.length ≤ 64) := by by_cases h : t.length ≤ 64 <;> simp [h] <;> omega
  rw [hgt]
  by_cases h64 : t.length ≤ 64
  ·rw [decide_eq_true h64] at hFe ⊢
   have hT : hdT bs = ⟨v1, v2, v3, t⟩ := by rw [hdT, hFe, if_pos rfl, hR]
   refine goA ?_
   refine zao [1, 2, 3] 7 rfl rfl kQ ?_
   refine goE ?_
   refine zaw 2 ⟨kQ, dQ⟩ rfl rfl (qdy rfl kQ rfl (fun w1 hw1 => zrr ⟨v1, v2, v3, t⟩ ⟨b1, b2', b3, h64⟩ w1 (ht.keep hw1))) (fun _ _ h => goH h) fun ⟨x, hx⟩ => ?_
   refine zaw 4 ⟨kQ, dQ⟩ rfl rfl (zfb (v := .bool (decide (hdP ⟨v1, v2, v3, t⟩ = bs))) rfl kQ rfl (fun w1 hw1 => ?_)) (fun _ _ h => goH h) fun _ => ?_
   ·have hi := (hw1.item (own 5 1 x 512 (zaf (hdP ⟨v1, v2, v3, t⟩))) (.head _)).1
    show Pu _ _ #[slV x 512, .slice a n c] _ _
    rw [(zas hi).1]
    exact zit (slA x) a 512 n (slC x) c (hdP ⟨v1, v2, v3, t⟩) bs (ztp h64) hn w1 (zbl hi) (hr.keep hw1)
   refine goE ?_
   refine zaw 5 ⟨kQ, dQ⟩ rfl rfl (zai (zce _ _ _) (zag (cs' := hdA ⟨v1, v2, v3, t⟩) rfl rfl rfl rfl rfl rfl)) (fun _ _ h => goH h) fun _ => ?_
   refine goX ?_
   refine zhm rfl ⟨_, rfl, zar rfl (.head _)⟩ rfl ?_
   rw [hT, zq2, hFe, hR]; rfl
  ·rw [decide_eq_false h64] at hFe ⊢
   have hT : hdT bs = zyv := by rw [hdT, hFe]; rfl
   refine goA ?_
   refine zaz rfl (zag (cs' := hdA zyv) rfl rfl rfl rfl rfl rfl) fun _ => ?_
   refine goA ?_
   refine zhm rfl ⟨_, rfl, zar rfl (.head _)⟩ rfl ?_
   rw [hT, zq2, hFe]; rfl
 ·rw [h42, iX, dL] at hFe
  have hT : hdT bs = zyv := by rw [hdT, hFe]; rfl
  simp only [if_true]
  refine goA ?_
  refine zaz rfl (zag (cs' := hdA zyv) rfl rfl rfl rfl rfl rfl) fun _ => ?_
  refine goA ?_
  refine zhm rfl ⟨_, rfl, zar rfl (.head _)⟩ rfl ?_
  rw [hT, zq2, hFe]; rfl
end Go.Proofs.YtkkfifhaobjicaaGreatDoor
