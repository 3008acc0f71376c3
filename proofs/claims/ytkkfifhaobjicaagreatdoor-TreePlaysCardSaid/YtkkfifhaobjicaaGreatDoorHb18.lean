/- Chunks: what is parsed of bytes, what is put, and when both are one. -/
/- Chunks and streams: what may be, what is taken of bytes, and the law of the way back. -/
/- package pack, the opener: what is taken of bytes. -/
/- package pack, the opener: a name. -/
/- package pack: numbers of eight bytes. -/
/- package crc: the checksum of bytes; its table as it is laid. -/
import Derived.Test.YtkkfifhaobjicaaGreatDoorHb17
import Derived.Test.YtkkfifhaobjicaaGreatDoorHb04
namespace Go.Proofs.YtkkfifhaobjicaaGreatDoor
set_option maxRecDepth 100000
structure qqa where
 name : Bys
 dir : Bool
 hash : Bys
 height : Nat
 size : Nat
def ze8 (o : Opn) : Bys × Opn := if o.2 then ([], o) else match o.1 with
 | [] => ([], ([], true))
 | c :: r => if r.length < c.toNat then ([], (c :: r, true)) else (r.take c.toNat, (r.drop c.toNat, false))
def qod (h : Bys) : Bys := if h.length = 32 then h else List.replicate 32 0
def qqt (nm : Bys) (d : Bool) (o : Opn) : qqa × Opn := (⟨nm, d, qod (opT 32 o).1, (opN 1 (opT 32 o).2).1, (opN 4 (opN 1 (opT 32 o).2).2).1⟩, (opN 4 (opN 1 (opT 32 o).2).2).2)
def qpu (kind : Nat) (o : Opn) : qqa × Opn := if kind = 3 then qqt (ze8 (opN 1 o).2).1 (decide ((opN 1 o).1 = 1)) (ze8 (opN 1 o).2).2 else qqt [] false o
def kidsF (kind : Nat) : Nat → Opn → List qqa × Opn
 | 0, o => ([], o)
 | n + 1, o => ((qpu kind o).1 :: (kidsF kind n (qpu kind o).2).1, (kidsF kind n (qpu kind o).2).2)
/-! ### lengths -/
end Go.Proofs.YtkkfifhaobjicaaGreatDoor
namespace Go.Proofs.YtkkfifhaobjicaaGreatDoor
set_option maxRecDepth 100000
open Classical in
open Classical in
open Classical in
/-! ### The stream that is zem -/
/-! ### Lengths -/
end Go.Proofs.YtkkfifhaobjicaaGreatDoor
namespace Go.Proofs.YtkkfifhaobjicaaGreatDoor
open Go.RowKit Go.Eng
set_option maxRecDepth 100000
set_option maxHeartbeats 40000000
abbrev opJ (b : Nat) (a : Option Addr) (n c e : Nat) : Eng.Item := pt b (.cells #[.slice a n c, .int .i64 e] 207 (0, 0))
def opI (b : Nat) (a : Option Addr) (c : Nat) (st : Opn) : Eng.Item := opJ b a st.1.length c (if st.2 then 3 else 0)
theorem zkn (b : Nat) (a : Option Addr) (c : Nat) (r : Bys) : opI b a c (r, false) = opJ b a r.length c 0 := rfl
theorem zmv (b : Nat) (a : Option Addr) (c : Nat) (r : Bys) : opI b a c (r, true) = opJ b a r.length c 3 := rfl
theorem zam (b : Nat) (a : Option Addr) (c : Nat) (st : Opn) : (opI b a c st).Stable none' := zac _ _ _
def zi6 (D : Eng.Item) (a : Option Addr) (c : Nat) (r : Bys) : Prop := r.length ≤ c ∧ ∀ w, D.prop w → Rd w a (zaf r)
theorem zi6.drop {D : Eng.Item} {a : Option Addr} {c : Nat} {r : Bys} (h : zi6 D a c r) (n : Nat) : zi6 D (zqr a (decide (c = n)) (n * 1)) (c - n) (r.drop n) :=
 ⟨by rw [List.length_drop]; have := h.1; omega, fun w hw => by rw [zw4]; exact (h.2 w hw).drop1 n (by rw [zar]; exact h.1)⟩
theorem zi6.front {D : Eng.Item} {a : Option Addr} {c : Nat} {r : Bys} (h : zi6 D a c r) (n : Nat) {w : World} (hw : D.prop w) : Rd w a (zaf (r.take n)) := by
 rw [zx1]; exact (h.2 w hw).take n
theorem zuj {n : Nat} {r : Bys} (h : r.length < n) : opT n (r, false) = ([], (r, true)) := by simp [opT, h]
theorem qaj {n : Nat} {r : Bys} (h : n ≤ r.length) : opT n (r, false) = (r.take n, (r.drop n, false)) := by simp [opT, Nat.not_lt.2 h]
theorem qil (bs : Bys) {k : Nat} (h : k < bs.length) : beV (bs.take (k + 1)) = beV (bs.take k) * 256 + bs[k].toNat := by
 rw [List.take_succ_eq_append_getElem h, zzy]
theorem qes (bs : Bys) {k : Nat} (hk : k ≤ 7) : beV (bs.take k) * 256 + 255 < 18446744073709551616 := by
 have h1 := qj3 (bs.take k)
 have h2 : (bs.take k).length ≤ 7 := by rw [List.length_take]; omega
 have h3 : 256 ^ (bs.take k).length ≤ 256 ^ 7 := Nat.pow_le_pow_right (by decide) h2
 have e : 256 ^ 7 = 72057594037927936 := by decide
 omega
theorem qi9 (a : Option Addr) (n c : Nat) (bs : Bys) (hn : bs.length = n) (h8 : n ≤ 8) (w : World) (hr : Rd w a (zaf bs)) :
  Pu Tryz.prog 131 #[.slice a n c] w (.int .u64 (beV bs : Nat)) := by
 refine zbl [_] Tryz.func131 rfl rfl ?_
 simp only [zaa]
 refine goA ?_
 refine zct (α := Nat) (fun k => [(3, .int .u64 (beV (bs.take k) : Nat)), (6, .slice a n c), (7, .int .i64 n), (8, .int .i64 k)]) (fun k => k ≤ n) (fun _ => []) (fun k => n - k) 0 ⟨rfl, rfl, rfl, rfl, trivial⟩ (Nat.zero_le _) (fun _ h => h) fun k hk => ?_
 by_cases hk2 : k < n
 ·have hkb : k < bs.length := by omega
  obtain ⟨b, off, rfl, hc⟩ := hr.byte hkb
  have hst := qil bs hkb
  have hsm := qes bs (k := k) (by omega)
  have hlt := bs[k].toNat_lt
  generalize bs[k] = x at hc hst hlt
  have hor := qm4 (beV (bs.take k)) x.toNat hsm hlt
  refine goA ?_
  refine l_w rfl (zet rfl rfl (fun h => h) hc) ?_
  refine goA ?_
  rw [hor, ← hst]
  refine goA ?_
  exact zay (k + 1) ⟨rfl, rfl, rfl, rfl, trivial⟩ hk2 (fun _ h => h) (by omega)
 ·obtain rfl : k = n := by omega
  have ht : bs.take k = bs := List.take_of_length_le (by omega)
  rw [ht]
  refine goA ?_
  exact zc2 rfl rfl rfl
theorem zpj (b : Nat) (a : Option Addr) (c : Nat) (st : Opn) (n : Nat) (D : Eng.Item) (hsD : D.Stable none') (hD : zi6 D a c st.1) (hn : n ≤ 8) (hz : st.1.length ≤ 1000000000) (w : World) (hw : ∀ it ∈ [opI b a c st, D], za2 it w) (ha : [opI b a c st, D].Pairwise Eng.Item.Apart) :
  Ct Tryz.prog 130 #[.pointer (some ⟨b, 0, none⟩), .int .i64 n, .func (.func 131) #[] #[]] w (zap [opI b a c st, D]) (fun _ : Option Addr × Nat => .int .u64 ((opN n st).1 : Nat)) (fun p => zi6 D p.1 p.2 (opN n st).2.1) (fun p => [opI b p.1 p.2 (opN n st).2, D]) := by
 obtain ⟨r, bad⟩ := st
 simp only [opN] at *
 cases bad with
 | true =>
  rw [qfl]
  simp only [zmv] at *
  refine zbd [_, _, _] _ Tryz.func130 rfl rfl hw ha ?_
  simp only [zaa, Nat.reduceAdd]
  refine goA ?_
  exact zbw (a, c) rfl rfl rfl hD (.refl _) (by simp [zac, hsD])
 | false =>
  by_cases hs : r.length < n
  ·rw [zuj hs]
   simp only [zmv, zkn] at *
   refine zbd [_, _, _] _ Tryz.func130 rfl rfl hw ha ?_
   simp only [zaa, Nat.reduceAdd]
   refine goA ?_
   refine za0 rfl (zaj rfl rfl rfl rfl rfl rfl (by simp)) fun _ => ?_
   refine goA ?_
   exact zbw (a, c) rfl rfl rfl hD (.refl _) (by simp [zac, hsD])
  ·have hl : n ≤ r.length := by omega
   have hcap := hD.1
   rw [qaj hl]
   simp only [zkn] at *
   refine zbd [_, _, _] _ Tryz.func130 rfl rfl hw ha ?_
   simp only [zaa, Nat.reduceAdd]
   refine goA ?_
   refine za0 rfl (zaj rfl rfl rfl rfl rfl rfl (by simp)) fun _ => ?_
   refine goA ?_
   refine zae rfl (zl4 (fs := []) (cs := []) rfl (by kernel_rfl) rfl rfl rfl fun w1 hw1 => qi9 a n c (r.take n) (by rw [List.length_take]; omega) hn w1 (hD.front n (hw1.item D (by simp)).1)) fun _ => ?_
   refine goA ?_
   have e : r.length - n = (r.drop n).length := by rw [List.length_drop]
   rw [e]
   exact zbw (_, _) rfl rfl rfl (hD.drop n) (.refl _) (by simp [zac, hsD])
/-! ### Texts -/
theorem qbs (a : Option Addr) (n c : Nat) (bs : Bys) (hn : bs.length = n) (w : World) (hr : Rd w a (zaf bs)) :
  Pu Tryz.prog 133 #[.slice a n c] w (.string ⟨bs.toArray⟩) := by
 refine zbl [_] Tryz.func133 rfl rfl ?_
 simp only [zaa]
 refine goA ?_
 refine l_w rfl (zrz rfl hn.symm rfl rfl (fun w1 hw1 => hr.keep hw1)) ?_
 refine goA ?_
 exact zc2 rfl rfl rfl
theorem zyo (b : Nat) (a : Option Addr) (c : Nat) (st : Opn) (n : Nat) (D : Eng.Item) (hsD : D.Stable none') (hD : zi6 D a c st.1) (hz : st.1.length ≤ 1000000000) (w : World) (hw : ∀ it ∈ [opI b a c st, D], za2 it w) (ha : [opI b a c st, D].Pairwise Eng.Item.Apart) :
  Ct Tryz.prog 132 #[.pointer (some ⟨b, 0, none⟩), .int .i64 n, .func (.func 133) #[] #[]] w (zap [opI b a c st, D]) (fun _ : Option Addr × Nat => .string ⟨(opT n st).1.toArray⟩) (fun p => zi6 D p.1 p.2 (opT n st).2.1) (fun p => [opI b p.1 p.2 (opT n st).2, D]) := by
 obtain ⟨r, bad⟩ := st
 cases bad with
 | true =>
  rw [qfl]
  simp only [zmv] at *
  refine zbd [_, _, _] _ Tryz.func132 rfl rfl hw ha ?_
  simp only [zaa, Nat.reduceAdd]
  refine goA ?_
  exact zbw (a, c) rfl rfl rfl hD (.refl _) (by simp [zac, hsD])
 | false =>
  by_cases hs : r.length < n
  ·rw [zuj hs]
   simp only [zmv, zkn] at *
   refine zbd [_, _, _] _ Tryz.func132 rfl rfl hw ha ?_
   simp only [zaa, Nat.reduceAdd]
   refine goA ?_
   refine za0 rfl (zaj rfl rfl rfl rfl rfl rfl (by simp)) fun _ => ?_
   refine goA ?_
   exact zbw (a, c) rfl rfl rfl hD (.refl _) (by simp [zac, hsD])
  ·have hl : n ≤ r.length := by omega
   have hcap := hD.1
   rw [qaj hl]
   simp only [zkn] at *
   refine zbd [_, _, _] _ Tryz.func132 rfl rfl hw ha ?_
   simp only [zaa, Nat.reduceAdd]
   refine goA ?_
   refine za0 rfl (zaj rfl rfl rfl rfl rfl rfl (by simp)) fun _ => ?_
   refine goA ?_
   refine zae rfl (zl4 (fs := []) (cs := []) rfl (by kernel_rfl) rfl rfl rfl fun w1 hw1 => qbs a n c (r.take n) (by rw [List.length_take]; omega) w1 (hD.front n (hw1.item D (by simp)).1)) fun _ => ?_
   refine goA ?_
   have e : r.length - n = (r.drop n).length := by rw [List.length_drop]
   rw [e]
   exact zbw (_, _) rfl rfl rfl (hD.drop n) (.refl _) (by simp [zac, hsD])
theorem zx5 (b : Nat) (a : Option Addr) (c : Nat) (st : Opn) (D : Eng.Item) (hsD : D.Stable none') (hD : zi6 D a c st.1) (w : World) (hw : ∀ it ∈ [opI b a c st, D], za2 it w) (ha : [opI b a c st, D].Pairwise Eng.Item.Apart) :
  Ct Tryz.prog 132 #[.pointer (some ⟨b, 0, none⟩), .int .i64 (-1), .func (.func 133) #[] #[]] w (zap [opI b a c st, D]) (fun _ : Unit => .string ⟨#[]⟩) (fun _ => True) (fun _ => [opI b a c (st.1, true), D]) := by
 obtain ⟨r, bad⟩ := st
 cases bad with
 | true =>
  simp only [zmv] at *
  refine zbd [_, _, _] _ Tryz.func132 rfl rfl hw ha ?_
  simp only [zaa, Nat.reduceAdd]
  refine goA ?_
  exact zbw () rfl rfl rfl trivial (.refl _) (by simp [zac, hsD])
 | false =>
  simp only [zmv, zkn] at *
  refine zbd [_, _, _] _ Tryz.func132 rfl rfl hw ha ?_
  simp only [zaa, Nat.reduceAdd]
  refine goA ?_
  refine za0 rfl (zaj rfl rfl rfl rfl rfl rfl (by simp)) fun _ => ?_
  refine goA ?_
  exact zbw () rfl rfl rfl trivial (.refl _) (by simp [zac, hsD])
/-! ### Hashes -/
theorem zxn (b : Nat) (a : Option Addr) (c : Nat) (st : Opn) (n : Nat) (D : Eng.Item) (hsD : D.Stable none') (hD : zi6 D a c st.1) (hn : n = 1 ∨ n = 2 ∨ n = 4) (hz : st.1.length ≤ 1000000000) (w : World) (hw : ∀ it ∈ [opI b a c st, D], za2 it w) (ha : [opI b a c st, D].Pairwise Eng.Item.Apart) :
  Ct Tryz.prog 87 #[.pointer (some ⟨b, 0, none⟩), .int .i64 n] w (zap [opI b a c st, D]) (fun _ : Option Addr × Nat => .int .u64 ((opN n st).1 : Nat)) (fun p => zi6 D p.1 p.2 (opN n st).2.1) (fun p => [opI b p.1 p.2 (opN n st).2, D]) := by
 refine zbd [_, _] _ Tryz.func87 rfl rfl hw ha ?_
 simp only [zaa, Nat.reduceAdd]
 refine goA ?_
 refine zae rfl (zag rfl (by kernel_rfl) rfl (fun w1 hw1 => zi5 n (by omega) w1)) fun _ => ?_
 refine goA ?_
 refine zae rfl (zba (pre := [opI b a c st, D]) rfl (by kernel_rfl) rfl (by simp [zam, hsD]) (fun w1 hw1 hh1 ha1 => zpj b a c st n D hsD hD (by omega) hz w1 hh1 ha1)) fun ⟨x, hx⟩ => ?_
 refine goA ?_
 exact zbw x rfl rfl rfl hx (.refl _) (by simp [zam, hsD])
theorem zog (b : Nat) (a : Option Addr) (c : Nat) (st : Opn) (n : Nat) (D : Eng.Item) (hsD : D.Stable none') (hD : zi6 D a c st.1) (hz : st.1.length ≤ 1000000000) (w : World) (hw : ∀ it ∈ [opI b a c st, D], za2 it w) (ha : [opI b a c st, D].Pairwise Eng.Item.Apart) :
  Ct Tryz.prog 88 #[.pointer (some ⟨b, 0, none⟩), .int .i64 n] w (zap [opI b a c st, D]) (fun _ : Option Addr × Nat => .string ⟨(opT n st).1.toArray⟩) (fun p => zi6 D p.1 p.2 (opT n st).2.1) (fun p => [opI b p.1 p.2 (opT n st).2, D]) := by
 refine zbd [_, _] _ Tryz.func88 rfl rfl hw ha ?_
 simp only [zaa, Nat.reduceAdd]
 refine goA ?_
 refine zae rfl (zba (pre := [opI b a c st, D]) rfl (by kernel_rfl) rfl (by simp [zam, hsD]) (fun w1 hw1 hh1 ha1 => zyo b a c st n D hsD hD hz w1 hh1 ha1)) fun ⟨x, hx⟩ => ?_
 refine goA ?_
 exact zbw x rfl rfl rfl hx (.refl _) (by simp [zam, hsD])
theorem zmz (b : Nat) (a : Option Addr) (c : Nat) (st : Opn) (D : Eng.Item) (hsD : D.Stable none') (hD : zi6 D a c st.1) (w : World) (hw : ∀ it ∈ [opI b a c st, D], za2 it w) (ha : [opI b a c st, D].Pairwise Eng.Item.Apart) :
  Ct Tryz.prog 88 #[.pointer (some ⟨b, 0, none⟩), .int .i64 (-1)] w (zap [opI b a c st, D]) (fun _ : Unit => .string ⟨#[]⟩) (fun _ => True) (fun _ => [opI b a c (st.1, true), D]) := by
 refine zbd [_, _] _ Tryz.func88 rfl rfl hw ha ?_
 simp only [zaa, Nat.reduceAdd]
 refine goA ?_
 refine zae rfl (zba (pre := [opI b a c st, D]) rfl (by kernel_rfl) rfl (by simp [zam, hsD]) (fun w1 hw1 hh1 ha1 => zx5 b a c st D hsD hD w1 hh1 ha1)) fun ⟨x, hx⟩ => ?_
 refine goA ?_
 exact zbw x rfl rfl rfl hx (.refl _) (by simp [zam, hsD])
theorem zgi (b : Nat) (a : Option Addr) (c : Nat) (st : Opn) (w : World) (hw : za2 (opI b a c st) w) : Pu Tryz.prog 89 #[.pointer (some ⟨b, 0, none⟩)] w (.int .i64 st.1.length) := by
 refine zbl [_] Tryz.func89 rfl rfl ?_
 simp only [zaa]
 refine goA ?_
 refine l_w rfl (zet rfl rfl (fun h => h) (zdx hw.1 rfl)) ?_
 refine goA ?_
 exact zc2 rfl rfl rfl
theorem zeu (b : Nat) (a : Option Addr) (c : Nat) (st : Opn) (w : World) (hw : za2 (opI b a c st) w) : Pu Tryz.prog 134 #[.pointer (some ⟨b, 0, none⟩)] w (.int .i64 ((if st.2 then 3 else 0 : Nat) : Int)) := by
 refine zbl [_] Tryz.func134 rfl rfl ?_
 simp only [zaa]
 refine goA ?_
 refine l_w rfl (zet rfl rfl (fun h => h) (zdx hw.1 rfl)) ?_
 refine goA ?_
 exact zc2 rfl rfl rfl
theorem qgk (b : Nat) (a : Option Addr) (c : Nat) (st : Opn) (w : World) (hw : za2 (opI b a c st) w) : Pu Tryz.prog 90 #[.pointer (some ⟨b, 0, none⟩)] w (.int .i64 ((if st = ([], false) then 0 else 3 : Nat) : Int)) := by
 refine zbl [_] Tryz.func90 rfl rfl ?_
 simp only [zaa]
 refine goA ?_
 refine zae rfl (zag rfl (by kernel_rfl) rfl (fun w1 hw1 => zeu b a c st w1 (hw.fr hw1.fr))) fun _ => ?_
 obtain ⟨r, bad⟩ := st
 cases bad with
 | true =>
  simp only [if_true, show ¬ (r, true) = (([], false) : Opn) from fun h => (by cases h), if_false]
  refine goA ?_
  exact zc2 rfl rfl rfl
 | false =>
  simp only [if_neg Bool.false_ne_true]
  refine goA ?_
  refine zae rfl (zag rfl (by kernel_rfl) rfl (fun w1 hw1 => zgi b a c (r, false) w1 (hw.fr hw1.fr))) fun _ => ?_
  cases r with
  | nil =>
   simp only [if_true, List.length_nil]
   refine goA ?_
   exact zc2 rfl rfl rfl
  | cons x r =>
   simp only [show ¬ (x :: r, false) = (([], false) : Opn) from fun h => (by cases h), if_false, List.length_cons]
   refine goA ?_
   exact zc2 rfl rfl rfl
theorem zlb (a : Option Addr) (n c : Nat) (bs : Bys) (hn : bs.length = n) (hz : n ≤ 1000000000) (w : World) (hr : Rd w a (zaf bs)) :
  Ct Tryz.prog 85 #[.slice a n c] w none' (fun p : Nat × Option (Nat × Nat) => .pointer (some ⟨p.1, 0, none⟩)) (fun p => zi6 (own 5 1 p.2 n (zaf bs)) (slA p.2) (slC p.2) bs) (fun p => [opI p.1 (slA p.2) (slC p.2) (bs, false), own 5 1 p.2 n (zaf bs)]) := by
 refine zfo [_] Tryz.func85 rfl rfl ?_
 simp only [zaa]
 refine goA ?_
 refine ze5 rfl rfl (by kernel_rfl) rfl (fun w1 hw1 => zpg a n c bs hn hz w1 (hr.keep hw1)) fun x hx => ?_
 refine zea (fun w hw => (zav (hw.item (own 5 1 x n (zaf bs)) (by simp)).1)) fun ⟨hsl, hcap⟩ => ?_
 rw [hsl]
 refine goA ?_
 refine zb0 rfl rfl fun b hb => ?_
 refine goA ?_
 subst hn
 exact zbw (b, x) rfl rfl rfl ⟨hcap, fun w hw => zbn hw⟩ (.refl _) (by simp [zab, zam])
theorem Rd.at0 {w : World} {b off : Nat} {x : UInt8} {r : Bys} (h : Rd w (some ⟨b, off, none⟩) (zaf (x :: r))) : w.cell? ⟨b, off + 0, none⟩ = some (.int .u8 (x.toNat : Int)) := by
 obtain ⟨b2, off2, e, h2⟩ := h.byte (i := 0) (by simp)
 cases e
 exact h2
theorem zsa (r : Bys) : ze8 (r, true) = ([], (r, true)) := rfl
theorem qbh : ze8 ([], false) = ([], ([], true)) := rfl
theorem zm5 {x : UInt8} {r : Bys} (h : r.length < x.toNat) : ze8 (x :: r, false) = ([], (x :: r, true)) := by simp [ze8, h]
theorem zpo {x : UInt8} {r : Bys} (h : ¬ r.length < x.toNat) : ze8 (x :: r, false) = opT x.toNat (r, false) := by simp [ze8, opT, h]
theorem ql2 (x : UInt8) (r : Bys) : opN 1 (x :: r, false) = (x.toNat, (r, false)) := by simp [opN, opT, beV]
theorem qiv (n : Nat) (r : Bys) : opN n (r, true) = (0, (r, true)) := by simp [opN, opT, beV]
theorem zh8 {b : Nat} {a : Option Addr} {c : Nat} {st : Opn} {n : Nat} {D : Eng.Item} (v : Nat) (st' : Opn) (he : opN n st = (v, st')) (hsD : D.Stable none') (hD : zi6 D a c st.1) (hn : n = 1 ∨ n = 2 ∨ n = 4) (hz : st.1.length ≤ 1000000000) {w : World} (hw : ∀ it ∈ [opI b a c st, D], za2 it w) (ha : [opI b a c st, D].Pairwise Eng.Item.Apart) :
  Ct Tryz.prog 87 #[.pointer (some ⟨b, 0, none⟩), .int .i64 n] w (zap [opI b a c st, D]) (fun _ : Option Addr × Nat => .int .u64 (v : Nat)) (fun p => zi6 D p.1 p.2 st'.1) (fun p => [opI b p.1 p.2 st', D]) := by
 have := zxn b a c st n D hsD hD hn hz w hw ha
 rw [he] at this; exact this
theorem zo3 {b : Nat} {a : Option Addr} {c : Nat} {st : Opn} {n : Nat} {D : Eng.Item} (t : Bys) (st' : Opn) (he : opT n st = (t, st')) (hsD : D.Stable none') (hD : zi6 D a c st.1) (hz : st.1.length ≤ 1000000000) {w : World} (hw : ∀ it ∈ [opI b a c st, D], za2 it w) (ha : [opI b a c st, D].Pairwise Eng.Item.Apart) :
  Ct Tryz.prog 88 #[.pointer (some ⟨b, 0, none⟩), .int .i64 n] w (zap [opI b a c st, D]) (fun _ : Option Addr × Nat => .string ⟨t.toArray⟩) (fun p => zi6 D p.1 p.2 st'.1) (fun p => [opI b p.1 p.2 st', D]) := by
 have := zog b a c st n D hsD hD hz w hw ha
 rw [he] at this; exact this
theorem zx8 (b : Nat) (a : Option Addr) (c : Nat) (st : Opn) (D : Eng.Item) (hsD : D.Stable none') (hD : zi6 D a c st.1) (hz : st.1.length ≤ 1000000000) (w : World) (hw : ∀ it ∈ [opI b a c st, D], za2 it w) (ha : [opI b a c st, D].Pairwise Eng.Item.Apart) :
  Ct Tryz.prog 180 #[.pointer (some ⟨b, 0, none⟩)] w (zap [opI b a c st, D]) (fun _ : Option Addr × Nat => .string ⟨(ze8 st).1.toArray⟩) (fun p => zi6 D p.1 p.2 (ze8 st).2.1) (fun p => [opI b p.1 p.2 (ze8 st).2, D]) := by
 refine zbd [_] _ Tryz.func180 rfl rfl hw ha ?_
 simp only [zaa]
 refine goA ?_
 obtain ⟨r, bad⟩ := st
 cases r with
 | nil =>
  refine zfc (by kernel_rfl) ?_
  refine goE ?_
  refine zau 1 ⟨by kernel_rfl, by decide⟩ rfl rfl (zag rfl (by kernel_rfl) rfl (fun w1 hw1 => zgi b a c ([], bad) w1 ⟨(hw1.item _ (.head _)).1, zam _ _ _ _, fun k hk => ((hw1.item _ (.head _)).2.2 k hk).1⟩)) (fun _ _ h => h) fun _ => ?_
  simp only [List.length_nil]
  refine goE ?_
  refine zbs (by kernel_rfl) ?_
  refine goA ?_
  have e : opN 1 (([] : Bys), bad) = (0, ([], true)) := by cases bad <;> rfl
  have e2 : ze8 (([] : Bys), bad) = ([], ([], true)) := by cases bad <;> rfl
  rw [e2]
  refine zae rfl (zba (pre := [opI b a c ([], bad), D]) rfl (by kernel_rfl) rfl (by simp [zam, hsD]) (fun w1 hw1 hh1 ha1 => zh8 0 ([], true) e hsD hD (.inl rfl) (by simp) hh1 ha1)) fun ⟨x, hx⟩ => ?_
  refine goA ?_
  refine zae rfl (zba (pre := [opI b x.1 x.2 ([], true), D]) rfl (by kernel_rfl) rfl (by simp [zam, hsD]) (fun w1 hw1 hh1 ha1 => zo3 (n := 0) [] ([], true) rfl hsD hx (by simp) hh1 ha1)) fun ⟨y, hy⟩ => ?_
  refine goA ?_
  exact zbw y rfl rfl rfl hy (.refl _) (by simp [zam, hsD])
 | cons x r =>
  have hrw := hD.2 w (hw D (by simp)).1
  obtain ⟨bb, off, rfl, hc0⟩ := hrw.byte (i := 0) (by simp)
  have hx0 : ∀ {F : Nat → Prop} {m : List Eng.Item} w', Hp w F m w' → D ∈ m → w'.cell? ⟨bb, off + 0, none⟩ = some (.int .u8 (x.toNat : Int)) := fun w' hw' hm => Rd.at0 (hD.2 w' (hw'.item D hm).1)
  have hxl := x.toNat_lt
  have hzr : r.length ≤ 1000000000 := by simp only [List.length_cons] at hz; omega
  obtain ⟨N1, hN1⟩ : ∃ n, (x :: r).length = n := ⟨_, rfl⟩
  have hN2 : N1 = r.length + 1 := by rw [← hN1]; rfl
  have hopI : opI b (some ⟨bb, off, none⟩) c (x :: r, bad) = opJ b (some ⟨bb, off, none⟩) N1 c (if bad then 3 else 0) := by rw [← hN1]; rfl
  rw [hopI]
  refine zfc (by kernel_rfl) ?_
  refine goE ?_
  refine zau 1 ⟨by kernel_rfl, by decide⟩ rfl rfl (zag rfl (by kernel_rfl) rfl (fun w1 hw1 => zgi b (some ⟨bb, off, none⟩) c (x :: r, bad) w1 (by rw [hopI]; exact ⟨(hw1.item _ (.head _)).1, zac _ _ _, fun k hk => ((hw1.item _ (.head _)).2.2 k hk).1⟩))) (fun _ _ h => h) fun _ => ?_
  simp only [hN1]
  refine goE ?_
  refine d_v [] rfl rfl (by kernel_rfl) (fun _ h => h) rfl rfl (zaz rfl rfl (fun w' hw' => hx0 w' hw' (by simp))) ?_
  refine goE ?_
  refine zbs (by kernel_rfl) ?_
  rw [← hopI]
  cases bad with
  | true =>
   rw [zsa]
   refine goA ?_
   refine qo3 rfl rfl (fun h => ?_) (fun h => ?_)
   ·refine goA ?_
    refine zae rfl (zba (pre := [opI b (some ⟨bb, off, none⟩) c (x :: r, true), D]) rfl (by kernel_rfl) rfl (by simp [zam, hsD]) (fun w1 hw1 hh1 ha1 => zmz b _ c (x :: r, true) D hsD hD w1 hh1 ha1)) fun _ => ?_
    refine goA ?_
    exact zbw (some ⟨bb, off, none⟩, c) rfl rfl rfl hD (.refl _) (by simp [zam, hsD])
   ·refine goA ?_
    refine zae rfl (zba (pre := [opI b (some ⟨bb, off, none⟩) c (x :: r, true), D]) rfl (by kernel_rfl) rfl (by simp [zam, hsD]) (fun w1 hw1 hh1 ha1 => zh8 0 (x :: r, true) (qiv 1 _) hsD hD (.inl rfl) hz hh1 ha1)) fun ⟨y, hy⟩ => ?_
    refine goA ?_
    refine zae rfl (zba (pre := [opI b y.1 y.2 (x :: r, true), D]) rfl (by kernel_rfl) rfl (by simp [zam, hsD]) (fun w1 hw1 hh1 ha1 => zo3 (n := 0) [] (x :: r, true) rfl hsD hy hz hh1 ha1)) fun ⟨z, hz2⟩ => ?_
    refine goA ?_
    exact zbw z rfl rfl rfl hz2 (.refl _) (by simp [zam, hsD])
  | false =>
   by_cases hs : r.length < x.toNat
   ·rw [zm5 hs]
    refine goA ?_
    refine zae rfl (zba (pre := [opI b (some ⟨bb, off, none⟩) c (x :: r, false), D]) rfl (by kernel_rfl) rfl (by simp [zam, hsD]) (fun w1 hw1 hh1 ha1 => zmz b _ c (x :: r, false) D hsD hD w1 hh1 ha1)) fun _ => ?_
    refine goA ?_
    exact zbw (some ⟨bb, off, none⟩, c) rfl rfl rfl hD (.refl _) (by simp [zam, hsD])
   ·rw [zpo hs]
    refine goA ?_
    refine zae rfl (zba (pre := [opI b (some ⟨bb, off, none⟩) c (x :: r, false), D]) rfl (by kernel_rfl) rfl (by simp [zam, hsD]) (fun w1 hw1 hh1 ha1 => zh8 x.toNat (r, false) (ql2 x r) hsD hD (.inl rfl) hz hh1 ha1)) fun ⟨y, hy⟩ => ?_
    refine goA ?_
    refine zae rfl (zba (pre := [opI b y.1 y.2 (r, false), D]) rfl (by kernel_rfl) rfl (by simp [zam, hsD]) (fun w1 hw1 hh1 ha1 => zog b y.1 y.2 (r, false) x.toNat D hsD hy hzr w1 hh1 ha1)) fun ⟨z, hz2⟩ => ?_
    refine goA ?_
    exact zbw z rfl rfl rfl hz2 (.refl _) (by simp [zam, hsD])
theorem zlu (b : Nat) (o : Option (Nat × Nat)) (xs : List UInt8) (n : Nat) (hn : n < 18446744073709551616) (hz : xs.length ≤ 900000000) (w : World) (hw : ∀ it ∈ pks b o xs, za2 it w) (ha : (pks b o xs).Pairwise Eng.Item.Apart) :
  Ct Tryz.prog 80 #[.pointer (some ⟨b, 0, none⟩), .int .i64 8, .int .u64 n] w (zap (pks b o xs)) (fun _ : Option (Nat × Nat) => .pointer (some ⟨b, 0, none⟩)) (fun _ => True) (fun o' => pks b o' (xs ++ beN 8 n)) := by
 refine zbd [_, _, _] _ Tryz.func80 rfl rfl hw ha ?_
 simp only [zaa, Nat.reduceAdd]
 refine goA ?_
 refine zd2 rfl rfl rfl fun b4 hb4 => ?_
 refine goA ?_
 refine zd2 rfl rfl rfl fun b5 hb5 => ?_
 refine goA ?_
 refine zae rfl (zag rfl (by kernel_rfl) rfl (fun w1 hw1 => zi5 8 (by decide) w1)) fun _ => ?_
 refine goA ?_
 refine l_w rfl (znm rfl) ?_
 refine za1 [2, 3, 1, 0] rfl rfl ?_
 refine zae rfl (zba (pre := [own _ _ _ _ _, pt b _]) rfl (by kernel_rfl) rfl (by first | (simp [zac, zab, zdn]; done) | (intro it hm; (iterate 6 (all_goals try (rcases hm with _ | ⟨_, hm⟩))) <;> first | exact zad _ | exact zac _ _ _ | exact zab _ _ _ _ _ _)) (fun w1 hw1 hh1 ha1 => zjg b o xs (beN 8 n) 121 [.pointer (some ⟨b4, 0, none⟩), .pointer (some ⟨b5, 0, none⟩)] (fun p : Nat × Nat => ⟨p.1, 0, none⟩) (fun p => p.2) (fun p => own 5 1 (some p) 8 (zaf (beN 8 n))) (fun p => zab _ _ _ _ _ _) (by kernel_rfl) (by rw [zao]; omega) w1 hh1 ha1 (fun w2 hw2 => by rw [zao]; exact zra b4 b5 8 n (by decide) w2 (hw2.old (zq1 hw1 (.head _)) (zdx (hw1.get (.tail _ (.tail _ (.head _)))) rfl)) (hw2.old (zq1 hw1 (.tail _ (.head _))) (zdx (hw1.get (.tail _ (.tail _ (.tail _ (.head _))))) rfl))) (fun p w2 hp _ j v hj => by rw [zc8, Nat.zero_add]; exact zbo hp j v hj))) fun ⟨x, hx⟩ => ?_
 refine goA ?_
 exact zbw x rfl rfl rfl trivial (.cons_cons _ (.cons_cons _ (List.nil_sublist _))) (by simp [zab, zac])
theorem zvl (b : Nat) (a : Option Addr) (c : Nat) (st : Opn) (D : Eng.Item) (hsD : D.Stable none') (hD : zi6 D a c st.1) (hz : st.1.length ≤ 1000000000) (w : World) (hw : ∀ it ∈ [opI b a c st, D], za2 it w) (ha : [opI b a c st, D].Pairwise Eng.Item.Apart) :
  Ct Tryz.prog 87 #[.pointer (some ⟨b, 0, none⟩), .int .i64 8] w (zap [opI b a c st, D]) (fun _ : Option Addr × Nat => .int .u64 ((opN 8 st).1 : Nat)) (fun p => zi6 D p.1 p.2 (opN 8 st).2.1) (fun p => [opI b p.1 p.2 (opN 8 st).2, D]) := by
 refine zbd [_, _] _ Tryz.func87 rfl rfl hw ha ?_
 simp only [zaa, Nat.reduceAdd]
 refine goA ?_
 refine zae rfl (zag rfl (by kernel_rfl) rfl (fun w1 hw1 => zi5 8 (by decide) w1)) fun _ => ?_
 refine goA ?_
 refine zae rfl (zba (pre := [opI b a c st, D]) rfl (by kernel_rfl) rfl (by simp [zam, hsD]) (fun w1 hw1 hh1 ha1 => zpj b a c st 8 D hsD hD (by decide) hz w1 hh1 ha1)) fun ⟨x, hx⟩ => ?_
 refine goA ?_
 exact zbw x rfl rfl rfl hx (.refl _) (by simp [zam, hsD])
theorem zxw {b : Nat} {a : Option Addr} {c : Nat} {st : Opn} {D : Eng.Item} (v : Nat) (st' : Opn) (he : opN 8 st = (v, st')) (hsD : D.Stable none') (hD : zi6 D a c st.1) (hz : st.1.length ≤ 1000000000) {w : World} (hw : ∀ it ∈ [opI b a c st, D], za2 it w) (ha : [opI b a c st, D].Pairwise Eng.Item.Apart) :
  Ct Tryz.prog 87 #[.pointer (some ⟨b, 0, none⟩), .int .i64 8] w (zap [opI b a c st, D]) (fun _ : Option Addr × Nat => .int .u64 (v : Nat)) (fun p => zi6 D p.1 p.2 st'.1) (fun p => [opI b p.1 p.2 st', D]) := by
 have := zvl b a c st D hsD hD hz w hw ha
 rw [he] at this; exact this
structure zqg (w : World) : Prop where
 obj : w.heap[1]? = some (.cells (halves.map w32).toArray 265 (0, 0))
theorem zqg.halves {w : World} (h : zqg w) : w.rangeAt 1 0 (halves.map w32) := za7 h.obj
theorem zqg.top {w : World} (h : zqg w) : 1 < w.heap.size := (Array.getElem?_eq_some_iff.1 h.obj).1
theorem zqg.fr {w w' : World} {F : Nat → Prop} (h : zqg w) (hF : ¬ F 1) (hf : Fr F w w') : zqg w' := ⟨(hf.block _ h.top hF).trans h.obj⟩
theorem zqg.keep {w w' : World} {m : List Eng.Item} (h : zqg w) (hw : Hp w none' m w') : zqg w' := h.fr (fun h => h) hw.fr
def hN : Nat → BitVec 32 → BitVec 32
 | 0, m => m
 | j + 1, m => qpe (hN j m)
theorem qgs (m : BitVec 32) : (halves.map w32)[(m &&& 15#32).toNat]? = some (w32 (halves[(m &&& 15#32).toNat]?.getD 0)) := by
 have h : (m &&& 15#32).toNat < halves.length := by
  rw [BitVec.toNat_and]
  exact Nat.lt_succ_of_le Nat.and_le_right
 rw [List.getElem?_map, List.getElem?_eq_getElem h]
 rfl
theorem zwa (a : Option Addr) (n c : Nat) (bs : Bys) (hn : bs.length = n) (hz : n ≤ 1000000000) (w : World) (hr : Rd w a (zaf bs)) (ht : zqg w) :
  Pu Tryz.prog 183 #[.slice a n c] w (w32 (zty bs)) := by
 refine zbl [_] Tryz.func183 rfl rfl ?_
 simp only [zaa]
 refine goA ?_
 refine zct (α := Nat) (fun k => [(3, w32 ((bs.take k).foldl qbx (BitVec.allOnes 32))), (6, .slice a n c), (7, .int .i64 n), (8, .int .i64 k)]) (fun k => k ≤ n) (fun _ => []) (fun k => n - k) 0 ⟨rfl, rfl, rfl, rfl, trivial⟩ (Nat.zero_le _) (fun _ h => h) fun k hk => ?_
 by_cases hk2 : k < n
 ·have hkb : k < bs.length := by omega
  obtain ⟨b, off, rfl, hc⟩ := hr.byte hkb
  have hst : (bs.take (k + 1)).foldl qbx (BitVec.allOnes 32) = qbx ((bs.take k).foldl qbx (BitVec.allOnes 32)) bs[k] := by rw [List.take_succ_eq_append_getElem hkb, List.foldl_append]; rfl
  generalize bs[k] = x at hc hst
  generalize (bs.take k).foldl qbx (BitVec.allOnes 32) = q at hst ⊢
  refine goW ?_
  refine l_w rfl (zet rfl rfl (fun h => h) hc) ?_
  refine goW ?_
  refine zct (α := Nat) (fun j => [(3, w32 (hN j (q ^^^ BitVec.ofNat 32 x.toNat))), (6, .slice (some ⟨b, off, none⟩) n c), (7, .int .i64 n), (8, .int .i64 k), (16, .int .i64 j)]) (fun j => j ≤ 2) (fun _ => []) (fun j => 2 - j) 0 ⟨rfl, rfl, rfl, rfl, rfl, trivial⟩ (Nat.zero_le _) (fun _ h => h) fun j hj => ?_
  by_cases hj2 : j < 2
  ·have hh := qgs (hN j (q ^^^ BitVec.ofNat 32 x.toNat))
   have hl : (hN j (q ^^^ BitVec.ofNat 32 x.toNat) &&& 15#32).toNat < 16 := by
    rw [BitVec.toNat_and]
    exact Nat.lt_succ_of_le Nat.and_le_right
   refine goW ?_
   refine l_w rfl (zet rfl rfl (fun h => h) (ht.halves _ _ hh)) ?_
   refine goW ?_
   exact zay (j + 1) ⟨rfl, rfl, rfl, rfl, rfl, trivial⟩ hj2 (fun _ h => h) (by omega)
  ·obtain rfl : j = 2 := by omega
   refine goW ?_
   refine zay (k + 1) ⟨by rw [hst]; rfl, rfl, rfl, rfl, trivial⟩ hk2 (fun _ h => h) (by omega)
 ·obtain rfl : k = n := by omega
  have ht : bs.take k = bs := List.take_of_length_le (by omega)
  rw [ht]
  refine goW ?_
  exact zc2 rfl rfl rfl
end Go.Proofs.YtkkfifhaobjicaaGreatDoor
