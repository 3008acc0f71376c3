/- package sheet: the sheet of a sector. -/
/- package wal: a head of the log as bytes. -/
/- package wal: the head of bytes. -/
/- package wal: places of numbers, the other head's sector, a head written, the next number. -/
import Derived.Test.YtkkfifhaobjicaaGreatDoorHb20
import Derived.Test.YtkkfifhaobjicaaGreatDoorHb18
import Derived.Test.YtkkfifhaobjicaaGreatDoorHb15
namespace Go.Proofs.YtkkfifhaobjicaaGreatDoor
open Go.RowKit Go.Eng
set_option maxRecDepth 100000
set_option maxHeartbeats 40000000
theorem zqv (w : Nat) (o : Opn) : (opN w o).1 < 256 ^ w := by
 have h1 := zo9 w o
 have h2 := qj3 (opT w o).1
 have h3 : 256 ^ (opT w o).1.length ≤ 256 ^ w := Nat.pow_le_pow_right (by decide) h1
 exact Nat.lt_of_lt_of_le h2 h3
theorem zft (n : Nat) (o : Opn) : (opT n o).2.1.length ≤ o.1.length := by
 unfold opT
 split
 ·exact Nat.le_refl _
 ·split
  ·exact Nat.le_refl _
  ·rw [List.length_drop]; omega
def qjt (b : Bys) : Sht × Opn :=
 let o1 := opN 8 (b, false)
 let o2 := opN 1 o1.2
 let o3 := opN 2 o2.2
 let t := opT o3.1 o3.2
 (⟨o1.1, decide (o2.1 = 2), t.1⟩, t.2)
def zid (b : Bys) : Bool := !(qjt b).2.2 && (decide ((qjt b).1.text.length ≤ 497) && decide (zno (qjt b).1 = b))
def qbd : Sht := ⟨0, false, []⟩
def zf6 (b : Bys) : Sht := if zid b then (qjt b).1 else qbd
theorem qdi (s : Sht) (ht5 : ¬ s.text.length ≤ 497) (hz : s.text.length ≤ 1000000) (w : World) : Pu Tryz.prog 181 #[.agg (zrq s)] w (.tuple #[.slice none 0 0, .int .i64 6]) := by
 refine zbl [_] Tryz.func181 rfl rfl ?_
 simp only [zaa]
 have htl := bal s.text
 refine goA ?_
 refine zb0 rfl rfl fun b1 hb1 => ?_
 refine goA ?_
 exact zg8 rfl rfl rfl rfl
theorem zvu (a : Option Addr) (n c : Nat) (bs : Bys) (hn : bs.length = n) (hz : n ≤ 1000000) (w : World) (hr : Rd w a (zaf bs)) (ht : zqg w) :
  Pu Tryz.prog 160 #[.slice a n c] w (.tuple #[.agg (zrq (zf6 bs)), .int .i64 ((if zid bs then 0 else 3 : Nat) : Int)]) := by
 refine zbl [_] Tryz.func160 rfl rfl ?_
 simp only [zaa]
 refine goA ?_
 refine zan rfl rfl fun b2 hb2 => ?_
 refine goA ?_
 refine ze5 rfl rfl (by kernel_rfl) rfl (fun w1 hw1 => zlb a n c bs hn (by omega) w1 (hr.keep hw1)) fun x hx => ?_
 obtain ⟨b, oD⟩ := x
 simp only at hx ⊢
 refine goA ?_
 obtain ⟨v1, s1, h1⟩ : ∃ v s, opN 8 (bs, false) = (v, s) := ⟨_, _, rfl⟩
 obtain ⟨v2, s2, h2⟩ : ∃ v s, opN 1 s1 = (v, s) := ⟨_, _, rfl⟩
 obtain ⟨v3, s3, h3⟩ : ∃ v s, opN 2 s2 = (v, s) := ⟨_, _, rfl⟩
 obtain ⟨t, s4, h4⟩ : ∃ v s, opT v3 s3 = (v, s) := ⟨_, _, rfl⟩
 have hR : qjt bs = (⟨v1, decide (v2 = 2), t⟩, s4) := by
  unfold qjt
  simp only
  rw [h1]; simp only
  rw [h2]; simp only
  rw [h3]; simp only
  rw [h4]
 have l1 : s1.1.length ≤ n := by have := zft 8 (bs, false); have e : (opT 8 (bs, false)).2 = s1 := congrArg Prod.snd h1; rw [e] at this; rw [← hn]; exact this
 have l2 : s2.1.length ≤ n := by have := zft 1 s1; have e : (opT 1 s1).2 = s2 := congrArg Prod.snd h2; rw [e] at this; omega
 have l3 : s3.1.length ≤ n := by have := zft 2 s2; have e : (opT 2 s2).2 = s3 := congrArg Prod.snd h3; rw [e] at this; omega
 have b1 : v1 < 18446744073709551616 := by have := zqv 8 (bs, false); rw [h1] at this; exact this
 have b2' : v2 < 256 := by have := zqv 1 s1; rw [h2] at this; exact this
 have b3 : v3 < 65536 := by have := zqv 2 s2; rw [h3] at this; exact this
 have b4 : t.length < 65536 := by have := zo9 v3 s3; rw [h4] at this; simp only at this; omega
 have hsD : (own 5 1 oD n (zaf bs)).Stable none' := zab _ _ _ _ _ _
 generalize own 5 1 oD n (zaf bs) = D at hx hsD
 refine zae rfl (zba (pre := [opI b (slA oD) (slC oD) (bs, false), D]) rfl (by kernel_rfl) rfl (by simp [zam, hsD]) (fun w1 hw1 hh1 ha1 => zxw v1 s1 h1 hsD hx (by simp only; omega) hh1 ha1)) fun ⟨y1, hy1⟩ => ?_
 refine goA ?_
 refine zae rfl (zba (pre := [opI b y1.1 y1.2 s1, D]) rfl (by kernel_rfl) rfl (by simp [zam, hsD]) (fun w1 hw1 hh1 ha1 => zh8 v2 s2 h2 hsD hy1 (.inl rfl) (by omega) hh1 ha1)) fun ⟨y2, hy2⟩ => ?_
 refine goA ?_
 refine zdc 15 _ (.agg #[.int .u64 (v1 : Int), .bool (decide (v2 = 2)), .string ⟨#[]⟩]) rfl ?_ ?_
 ·have e : ((v2 : Int) == 2) = decide (v2 = 2) := by by_cases h : v2 = 2 <;> simp [h]; omega
  rw [e]; rfl
 dsimp only
 refine zan rfl rfl fun b5 hb5 => ?_
 refine za0 rfl (zai (cs' := #[.int .u64 (v1 : Int), .bool (decide (v2 = 2)), .string ⟨#[]⟩]) rfl rfl rfl rfl rfl rfl) fun _ => ?_
 refine goA ?_
 refine za1 [1, 2, 0, 3] rfl rfl ?_
 refine zae rfl (zba (pre := [opI b y2.1 y2.2 s2, D]) rfl (by kernel_rfl) rfl (by simp [zam, hsD]) (fun w1 hw1 hh1 ha1 => zh8 v3 s3 h3 hsD hy2 (.inr (.inl rfl)) (by omega) hh1 ha1)) fun ⟨y3, hy3⟩ => ?_
 refine goA ?_
 refine zae rfl (zba (pre := [opI b y3.1 y3.2 s3, D]) rfl (by kernel_rfl) rfl (by simp [zam, hsD]) (fun w1 hw1 hh1 ha1 => zo3 t s4 h4 hsD hy3 (by omega) hh1 ha1)) fun ⟨y4, hy4⟩ => ?_
 dsimp only
 refine goA ?_
 refine za1 [2, 0, 1, 3] rfl rfl ?_
 refine za0 rfl (zaj rfl rfl rfl rfl rfl rfl (show (2 : Nat) < 3 from by decide)) fun _ => ?_
 refine ze1 (m' := [pt b5 (.cells (zrq ⟨v1, decide (v2 = 2), t⟩) 238 (0, 0)), opI b y4.1 y4.2 s4, D, pt b2 (.cells (zrq qbd) 238 (0, 0))]) (fun w' hw' => hw') ?_
 refine goA ?_
 have hOk : zid bs = (!s4.2 && (decide (t.length ≤ 497) && decide (zno ⟨v1, decide (v2 = 2), t⟩ = bs))) := by unfold zid; rw [hR]
 by_cases h497 : t.length ≤ 497
 ·rw [decide_eq_true h497, Bool.true_and] at hOk
  refine ze5 rfl rfl (by kernel_rfl) rfl (fun w1 hw1 => zwr ⟨v1, decide (v2 = 2), t⟩ b1 h497 w1 (ht.keep hw1)) fun x hx => ?_
  refine zea (fun w hw => (zav (hw.item (own 5 1 x 512 (zaf (zno ⟨v1, decide (v2 = 2), t⟩))) (.head _)).1)) fun ⟨hsl, hcap⟩ => ?_
  have hpl : (zno ⟨v1, decide (v2 = 2), t⟩).length = 512 := qam h497
  rw [hsl]
  refine goA ?_
  refine zae rfl (zag rfl (by kernel_rfl) rfl (fun w1 hw1 => zeu b y4.1 y4.2 s4 w1 (za2.of (hw1.item _ (.tail _ (.tail _ (.head _)))) (zam _ _ _ _)))) fun _ => ?_
  cases h42 : s4.2
  ·rw [h42, Bool.not_false, Bool.true_and] at hOk
   simp only [Bool.false_eq_true, if_false]
   refine goA ?_
   refine zae rfl (zag rfl (by kernel_rfl) rfl (fun w1 hw1 => ziu (slA x) a 512 n (slC x) c (zno ⟨v1, decide (v2 = 2), t⟩) bs hpl hn w1 (zbn (hw1.item (own 5 1 x 512 (zaf (zno ⟨v1, decide (v2 = 2), t⟩))) (.head _)).1) (hr.keep hw1))) fun _ => ?_
   by_cases hq : zno ⟨v1, decide (v2 = 2), t⟩ = bs
   ·rw [decide_eq_true hq] at hOk
    rw [decide_eq_true hq]
    refine goA ?_
    refine za0 rfl (zak (zhl _ _ _ _ _ _) (zai (cs' := zrq ⟨v1, decide (v2 = 2), t⟩) rfl rfl rfl rfl rfl rfl)) fun _ => ?_
    refine goA ?_
    refine zg8 rfl ⟨_, rfl, zas rfl (.head _)⟩ rfl ?_
    simp only [zf6, hOk, hR, if_true]; rfl
   ·rw [decide_eq_false hq] at hOk
    rw [decide_eq_false hq]
    refine goA ?_
    refine za0 rfl (zak (zhl _ _ _ _ _ _) (zai (cs' := zrq qbd) rfl rfl rfl rfl rfl rfl)) fun _ => ?_
    refine goA ?_
    refine zg8 rfl ⟨_, rfl, zas rfl (.head _)⟩ rfl ?_
    simp only [zf6, hOk, Bool.false_eq_true, if_false]; rfl
  ·rw [h42, Bool.not_true, Bool.false_and] at hOk
   simp only [if_true]
   refine goA ?_
   refine za0 rfl (zak (zhl _ _ _ _ _ _) (zai (cs' := zrq qbd) rfl rfl rfl rfl rfl rfl)) fun _ => ?_
   refine goA ?_
   refine zg8 rfl ⟨_, rfl, zas rfl (.head _)⟩ rfl ?_
   simp only [zf6, hOk, Bool.false_eq_true, if_false]; rfl
 ·rw [decide_eq_false h497, Bool.false_and, Bool.and_false] at hOk
  refine zae rfl (zag rfl (by kernel_rfl) rfl (fun w1 hw1 => qdi ⟨v1, decide (v2 = 2), t⟩ h497 (by simp only; omega) w1)) fun _ => ?_
  refine goA ?_
  refine zae rfl (zag rfl (by kernel_rfl) rfl (fun w1 hw1 => zeu b y4.1 y4.2 s4 w1 (za2.of (hw1.item _ (.tail _ (.head _))) (zam _ _ _ _)))) fun _ => ?_
  have herr : (((if s4.2 then 3 else 0 : Nat) : Int) != 0) = s4.2 := by cases s4.2 <;> rfl
  refine goA ?_
  rw [herr]
  cases h42 : s4.2
  ·refine goA ?_
   refine za0 rfl (zak (zdl _ _ _ _ _) (zai (cs' := zrq qbd) rfl rfl rfl rfl rfl rfl)) fun _ => ?_
   refine goA ?_
   refine zg8 rfl ⟨_, rfl, zas rfl (.head _)⟩ rfl ?_
   simp only [zf6, hOk, Bool.false_eq_true, if_false]; rfl
  ·refine goA ?_
   refine za0 rfl (zak (zdl _ _ _ _ _) (zai (cs' := zrq qbd) rfl rfl rfl rfl rfl rfl)) fun _ => ?_
   refine goA ?_
   refine zg8 rfl ⟨_, rfl, zas rfl (.head _)⟩ rfl ?_
   simp only [zf6, hOk, Bool.false_eq_true, if_false]; rfl
structure Hd where
 gen : Nat
 first : Nat
 secs : Nat
 note : Bys
structure Hd.Ok (h : Hd) : Prop where
 gen : h.gen < 18446744073709551616
 first : h.first < 18446744073709551616
 secs : h.secs < 65536
 note : h.note.length ≤ 64
abbrev hdA (h : Hd) : Array Value := #[.int .u64 (h.gen : Int), .int .u64 (h.first : Int), .int .i64 (h.secs : Int), .string ⟨h.note.toArray⟩]
def hdH (h : Hd) : Bys := beN 8 h.gen ++ beN 8 h.first ++ beN 2 h.secs ++ (beN 1 h.note.length ++ h.note) ++ List.replicate (489 - h.note.length) 0
def hdP (h : Hd) : Bys := hdH h ++ beN 4 (zty (hdH h)).toNat
theorem qe7 {h : Hd} (hn : h.note.length ≤ 64) : (hdH h).length = 508 := by
 simp only [hdH, List.length_append, zao, List.length_replicate]; omega
theorem ztr {h : Hd} (hn : h.note.length ≤ 64) : (hdP h).length = 512 := by
 rw [hdP, List.length_append, qe7 hn, zao]
theorem zrm (s : Hd) (hs : s.Ok) (w : World) (ht : zqg w) :
  Ct Tryz.prog 162 #[.agg (hdA s)] w none' (fun o : Option (Nat × Nat) => slV o 512) (fun _ => True) (fun o => [own 5 1 o 512 (zaf (hdP s))]) := by
 refine zfo [_] Tryz.func162 rfl rfl ?_
 obtain ⟨hg, hf, hc, hn⟩ := hs
 simp only [zaa]
 have htl := bal s.note
 refine goA ?_
 refine zb0 rfl rfl fun b1 hb1 => ?_
 refine goA ?_
 have hX : hdH s = beN 8 s.gen ++ beN 8 s.first ++ beN 2 s.secs ++ (beN 1 s.note.length ++ s.note) ++ List.replicate (489 - s.note.length) 0 := rfl
 have hXl := qe7 hn
 refine zaq [0] 15 rfl rfl (by kernel_rfl) ?_
 refine goE ?_
 refine zau 0 ⟨by kernel_rfl, by decide⟩ rfl rfl (qck rfl (by kernel_rfl) rfl (fun w1 hw1 => zln w1)) (fun _ _ h => goH h) fun ⟨b, hb⟩ => ?_
 refine goE ?_
 refine zau 3 ⟨by kernel_rfl, by decide⟩ rfl rfl (zba (pre := pks b none []) rfl (by kernel_rfl) rfl (by simp [zac, zab]) (fun w1 hw1 hh1 ha1 => zlu b none [] s.gen hg (by decide) w1 hh1 ha1)) (fun _ _ h => goH h) fun ⟨o1, _⟩ => ?_
 rw [List.nil_append]
 refine goE ?_
 refine zau 6 ⟨by kernel_rfl, by decide⟩ rfl rfl (zba (pre := pks b o1 (beN 8 s.gen)) rfl (by kernel_rfl) rfl (by simp [zac, zab]) (fun w1 hw1 hh1 ha1 => zlu b o1 _ s.first hf (by rw [zao]; decide) w1 hh1 ha1)) (fun _ _ h => goH h) fun ⟨o2, _⟩ => ?_
 refine goE ?_
 refine zau 10 ⟨by kernel_rfl, by decide⟩ rfl rfl (zba (pre := pks b o2 (beN 8 s.gen ++ beN 8 s.first)) rfl (by kernel_rfl) rfl (by simp [zac, zab]) (fun w1 hw1 hh1 ha1 => zd7 b o2 _ 2 s.secs (.inr (.inl rfl)) (by omega) (by rw [List.length_append, zao, zao]; decide) w1 hh1 ha1)) (fun _ _ h => goH h) fun ⟨o3, _⟩ => ?_
 refine goE ?_
 refine zau 13 ⟨by kernel_rfl, by decide⟩ rfl rfl (zba (pre := pks b o3 (beN 8 s.gen ++ beN 8 s.first ++ beN 2 s.secs)) rfl (by kernel_rfl) rfl (by simp [zac, zab]) (fun w1 hw1 hh1 ha1 => qcd b o3 _ ⟨s.note.toArray⟩ (by rw [htl]; omega) (by rw [List.length_append, List.length_append, zao, zao, zao]; decide) w1 hh1 ha1)) (fun _ _ h => goH h) fun ⟨o4, _⟩ => ?_
 refine goE ?_
 refine zbs (by kernel_rfl) ?_
 obtain ⟨Y, hY⟩ : ∃ Y, beN 8 s.gen ++ beN 8 s.first ++ beN 2 s.secs ++ (beN 1 s.note.length ++ s.note) = Y := ⟨_, rfl⟩
 have hYl : Y.length = 19 + s.note.length := by rw [← hY]; simp only [List.length_append, zao]; omega
 refine zb3 (m' := pks b o4 Y ++ [pt b1 (.cells (hdA s) 195 (0, 0))]) (fun w' hw' => by rw [← hY]; rw [htl] at hw'; exact hw') ?_
 rw [hY] at hX
 have hXY : Y ++ List.replicate (489 - s.note.length) 0 = hdH s := hX.symm
 refine goA ?_
 rw [htl]
 refine goA ?_
 refine zae rfl (zag rfl (by kernel_rfl) rfl (fun w1 hw1 => zis (489 - s.note.length) (by omega) w1)) fun _ => ?_
 have hrl : (⟨(List.replicate (489 - s.note.length) (0 : UInt8)).toArray⟩ : ByteArray).size = 489 - s.note.length := by rw [bal, List.length_replicate]
 refine zae rfl (zba (pre := pks b o4 Y) rfl (by kernel_rfl) rfl (by simp [zac, zab]) (fun w1 hw1 hh1 ha1 => zgb b o4 Y ⟨(List.replicate (489 - s.note.length) (0 : UInt8)).toArray⟩ (by rw [hrl, hYl]; omega) w1 hh1 ha1)) fun ⟨o5, _⟩ => ?_
 refine ze1 (m' := pks b o5 (hdH s)) (fun w' hw' => by rw [← hXY]; exact hw'.sub (.cons_cons _ (.cons_cons _ (.cons _ (.refl _))))) ?_
 generalize hXe : hdH s = X at hXl
 have hPe : hdP s = X ++ beN 4 (zty X).toNat := by rw [hdP, hXe]
 rw [hPe]
 have hr32 := (zty X).isLt
 refine goA ?_
 refine zae rfl (zba (pre := pks b o5 X) rfl (by kernel_rfl) rfl (by simp [zac, zab]) (fun w1 hw1 hh1 ha1 => zfe b o5 X (by rw [hXl]; decide) w1 hh1 ha1)) fun ⟨o6, _⟩ => ?_
 dsimp only
 refine zea (fun w hw => (zav (hw.item (own 5 1 o6 X.length (zaf X)) (.head _)).1)) fun ⟨hsl, hcap⟩ => ?_
 rw [hsl]
 refine goA ?_
 refine zae rfl (zag rfl (by kernel_rfl) rfl (fun w1 hw1 => zwa (slA o6) X.length (slC o6) X rfl (by omega) w1 (zbn (hw1.item (own 5 1 o6 X.length (zaf X)) (.head _)).1) (ht.keep hw1))) fun _ => ?_
 refine goA ?_
 refine ze1 (m' := pks b o5 X) (fun w' hw' => hw'.sub (.cons _ (.cons_cons _ (.cons_cons _ (.refl _))))) ?_
 refine zae rfl (zba (pre := pks b o5 X) rfl (by kernel_rfl) rfl (by simp [zac, zab]) (fun w1 hw1 hh1 ha1 => zd7 b o5 X 4 (zty X).toNat (.inr (.inr rfl)) (by omega) (by rw [hXl]; decide) w1 hh1 ha1)) fun ⟨o7, _⟩ => ?_
 refine zae rfl (zba (pre := pks b o7 (X ++ beN 4 (zty X).toNat)) rfl (by kernel_rfl) rfl (by simp [zac, zab]) (fun w1 hw1 hh1 ha1 => zfe b o7 _ (by rw [List.length_append, hXl, zao]; decide) w1 hh1 ha1)) fun ⟨o8, _⟩ => ?_
 have hzl : (X ++ beN 4 (zty X).toNat).length = 512 := by rw [List.length_append, hXl, zao]
 dsimp only
 generalize X ++ beN 4 (zty X).toNat = Z at hzl ⊢
 rw [hzl]
 refine goA ?_
 exact zbw o8 rfl rfl rfl trivial (.cons_cons _ (List.nil_sublist _)) (by simp [zab])
def hdR (b : Bys) : Hd × Opn :=
 let o1 := opN 8 (b, false)
 let o2 := opN 8 o1.2
 let o3 := opN 2 o2.2
 let t := ze8 o3.2
 (⟨o1.1, o2.1, o3.1, t.1⟩, t.2)
def zyl : Hd := ⟨0, 0, 0, []⟩
def hdF (b : Bys) : Bool := !(hdR b).2.2 && decide ((hdR b).1.note.length ≤ 64)
def hdT (b : Bys) : Hd := if hdF b then (hdR b).1 else zyl
def zqm (b : Bys) : Bool := hdF b && decide (hdP (hdR b).1 = b)
theorem qft (o : Opn) : (ze8 o).1.length ≤ 255 := by
 obtain ⟨r, bad⟩ := o
 cases bad with
 | true => rw [zsa]; exact Nat.zero_le _
 | false =>
  cases r with
  | nil => rw [qbh]; exact Nat.zero_le _
  | cons x r =>
   by_cases h : r.length < x.toNat
   ·rw [zm5 h]; exact Nat.zero_le _
   ·rw [zpo h]
    have := zo9 x.toNat (r, false)
    have := x.toNat_lt
    omega
theorem qor {b : Nat} {a : Option Addr} {c : Nat} {st : Opn} {D : Eng.Item} (t : Bys) (st' : Opn) (he : ze8 st = (t, st')) (hsD : D.Stable none') (hD : zi6 D a c st.1) (hz : st.1.length ≤ 1000000000) {w : World} (hw : ∀ it ∈ [opI b a c st, D], za2 it w) (ha : [opI b a c st, D].Pairwise Eng.Item.Apart) :
  Ct Tryz.prog 180 #[.pointer (some ⟨b, 0, none⟩)] w (zap [opI b a c st, D]) (fun _ : Option Addr × Nat => .string ⟨t.toArray⟩) (fun p => zi6 D p.1 p.2 st'.1) (fun p => [opI b p.1 p.2 st', D]) := by
 have := zx8 b a c st D hsD hD hz w hw ha
 rw [he] at this; exact this
theorem zyp (a : Option Addr) (n c : Nat) (bs : Bys) (hn : bs.length = n) (hz : n ≤ 1000000) (w : World) (hr : Rd w a (zaf bs)) (ht : zqg w) :
  Pu Tryz.prog 159 #[.slice a n c] w (.tuple #[.agg (hdA (hdT bs)), .bool (zqm bs)]) := by
 refine zbl [_] Tryz.func159 rfl rfl ?_
 simp only [zaa]
 refine goA ?_
 refine zan rfl rfl fun b2 hb2 => ?_
 refine goA ?_
 refine ze5 rfl rfl (by kernel_rfl) rfl (fun w1 hw1 => zlb a n c bs hn (by omega) w1 (hr.keep hw1)) fun x hx => ?_
 obtain ⟨b, oD⟩ := x
 simp only at hx ⊢
 refine goA ?_
 obtain ⟨v1, s1, h1⟩ : ∃ v s, opN 8 (bs, false) = (v, s) := ⟨_, _, rfl⟩
 obtain ⟨v2, s2, h2⟩ : ∃ v s, opN 8 s1 = (v, s) := ⟨_, _, rfl⟩
 obtain ⟨v3, s3, h3⟩ : ∃ v s, opN 2 s2 = (v, s) := ⟨_, _, rfl⟩
 obtain ⟨t, s4, h4⟩ : ∃ v s, ze8 s3 = (v, s) := ⟨_, _, rfl⟩
 have hR : hdR bs = (⟨v1, v2, v3, t⟩, s4) := by
  unfold hdR
  simp only
  rw [h1]; simp only
  rw [h2]; simp only
  rw [h3]; simp only
  rw [h4]
 have l1 : s1.1.length ≤ n := by have := zft 8 (bs, false); have e : (opT 8 (bs, false)).2 = s1 := congrArg Prod.snd h1; rw [e] at this; rw [← hn]; exact this
 have l2 : s2.1.length ≤ n := by have := zft 8 s1; have e : (opT 8 s1).2 = s2 := congrArg Prod.snd h2; rw [e] at this; omega
 have l3 : s3.1.length ≤ n := by have := zft 2 s2; have e : (opT 2 s2).2 = s3 := congrArg Prod.snd h3; rw [e] at this; omega
 have b1 : v1 < 18446744073709551616 := by have := zqv 8 (bs, false); rw [h1] at this; exact this
 have b2' : v2 < 18446744073709551616 := by have := zqv 8 s1; rw [h2] at this; exact this
 have b3 : v3 < 65536 := by have := zqv 2 s2; rw [h3] at this; exact this
 have b4 : t.length ≤ 255 := by have := qft s3; rw [h4] at this; exact this
 have hsD : (own 5 1 oD n (zaf bs)).Stable none' := zab _ _ _ _ _ _
 generalize own 5 1 oD n (zaf bs) = D at hx hsD
 refine zae rfl (zba (pre := [opI b (slA oD) (slC oD) (bs, false), D]) rfl (by kernel_rfl) rfl (by simp [zam, hsD]) (fun w1 hw1 hh1 ha1 => zxw v1 s1 h1 hsD hx (by simp only; omega) hh1 ha1)) fun ⟨y1, hy1⟩ => ?_
 refine goA ?_
 refine zae rfl (zba (pre := [opI b y1.1 y1.2 s1, D]) rfl (by kernel_rfl) rfl (by simp [zam, hsD]) (fun w1 hw1 hh1 ha1 => zxw v2 s2 h2 hsD hy1 (by omega) hh1 ha1)) fun ⟨y2, hy2⟩ => ?_
 refine goA ?_
 refine zae rfl (zba (pre := [opI b y2.1 y2.2 s2, D]) rfl (by kernel_rfl) rfl (by simp [zam, hsD]) (fun w1 hw1 hh1 ha1 => zh8 v3 s3 h3 hsD hy2 (.inr (.inl rfl)) (by omega) hh1 ha1)) fun ⟨y3, hy3⟩ => ?_
 refine goA ?_
 refine zae rfl (zba (pre := [opI b y3.1 y3.2 s3, D]) rfl (by kernel_rfl) rfl (by simp [zam, hsD]) (fun w1 hw1 hh1 ha1 => qor t s4 h4 hsD hy3 (by omega) hh1 ha1)) fun ⟨y4, hy4⟩ => ?_
 dsimp only
 refine goA ?_
 refine zdc 17 _ (.agg (hdA ⟨v1, v2, v3, t⟩)) rfl rfl ?_
 refine zan rfl rfl fun b5 hb5 => ?_
 refine za0 rfl (zai (cs' := hdA ⟨v1, v2, v3, t⟩) rfl rfl rfl rfl rfl rfl) fun _ => ?_
 refine goA ?_
 refine ze1 (m' := [pt b5 (.cells (hdA ⟨v1, v2, v3, t⟩) 195 (0, 0)), opI b y4.1 y4.2 s4, D, pt b2 (.cells (hdA zyl) 195 (0, 0))]) (fun w' hw' => hw') ?_
 refine za1 [3, 0, 1, 2] rfl rfl ?_
 refine zae rfl (zag rfl (by kernel_rfl) rfl (fun w1 hw1 => zeu b y4.1 y4.2 s4 w1 (za2.of (hw1.item _ (.tail _ (.tail _ (.head _)))) (zam _ _ _ _)))) fun _ => ?_
 have htl := bal t
 have hFe : hdF bs = (!s4.2 && decide (t.length ≤ 64)) := by unfold hdF; rw [hR]
 cases h42 : s4.2
 ·rw [h42, Bool.not_false, Bool.true_and] at hFe
  simp only [Bool.false_eq_true, if_false]
  refine goA ?_
  rw [htl]
  have hgt : decide ((t.length : Int) > 64) = !decide (t.length ≤ 64) := by by_cases h : t.length ≤ 64 <;> simp [h] <;> omega
  rw [hgt]
  by_cases h64 : t.length ≤ 64
  ·rw [decide_eq_true h64] at hFe ⊢
   have hT : hdT bs = ⟨v1, v2, v3, t⟩ := by rw [hdT, hFe, if_pos rfl, hR]
   refine goA ?_
   refine zaq [1, 2, 3] 7 rfl rfl (by kernel_rfl) ?_
   refine goE ?_
   refine zau 2 ⟨by kernel_rfl, by decide⟩ rfl rfl (qck rfl (by kernel_rfl) rfl (fun w1 hw1 => zrm ⟨v1, v2, v3, t⟩ ⟨b1, b2', b3, h64⟩ w1 (ht.keep hw1))) (fun _ _ h => goH h) fun ⟨x, hx⟩ => ?_
   refine zau 4 ⟨by kernel_rfl, by decide⟩ rfl rfl (zag (v := .bool (decide (hdP ⟨v1, v2, v3, t⟩ = bs))) rfl (by kernel_rfl) rfl (fun w1 hw1 => ?_)) (fun _ _ h => goH h) fun _ => ?_
   ·have hi := (hw1.item (own 5 1 x 512 (zaf (hdP ⟨v1, v2, v3, t⟩))) (.head _)).1
    show Pu _ _ #[slV x 512, .slice a n c] _ _
    rw [(zav hi).1]
    exact ziu (slA x) a 512 n (slC x) c (hdP ⟨v1, v2, v3, t⟩) bs (ztr h64) hn w1 (zbn hi) (hr.keep hw1)
   refine goE ?_
   refine zau 5 ⟨by kernel_rfl, by decide⟩ rfl rfl (zak (zci _ _ _) (zai (cs' := hdA ⟨v1, v2, v3, t⟩) rfl rfl rfl rfl rfl rfl)) (fun _ _ h => goH h) fun _ => ?_
   refine goE ?_
   refine zbs (by kernel_rfl) ?_
   refine goA ?_
   refine zg8 rfl ⟨_, rfl, zas rfl (.head _)⟩ rfl ?_
   rw [hT, zqm, hFe, hR]; rfl
  ·rw [decide_eq_false h64] at hFe ⊢
   have hT : hdT bs = zyl := by rw [hdT, hFe]; rfl
   refine goA ?_
   refine za0 rfl (zai (cs' := hdA zyl) rfl rfl rfl rfl rfl rfl) fun _ => ?_
   refine goA ?_
   refine zg8 rfl ⟨_, rfl, zas rfl (.head _)⟩ rfl ?_
   rw [hT, zqm, hFe]; rfl
 ·rw [h42, Bool.not_true, Bool.false_and] at hFe
  have hT : hdT bs = zyl := by rw [hdT, hFe]; rfl
  simp only [if_true]
  refine goA ?_
  refine za0 rfl (zai (cs' := hdA zyl) rfl rfl rfl rfl rfl rfl) fun _ => ?_
  refine goA ?_
  refine zg8 rfl ⟨_, rfl, zas rfl (.head _)⟩ rfl ?_
  rw [hT, zqm, hFe]; rfl
end Go.Proofs.YtkkfifhaobjicaaGreatDoor
namespace Go.Eng
variable {w0 : World} {F : Nat → Prop} {m : List Item}
theorem Hp.still {x y : Item} {w w' : World} (hw : Hp w0 F (x :: m) w) (hm : y ∈ m) (hs : y.Stable none') (hf : Fr (zap [x]) w w') : y.prop w' :=
 hs w w' (fun k hk => by
  rcases hk with hk | hk
  ·exact hk.elim
  ·refine hf.block k ((hw.item y (.tail _ hm)).2.2 k hk).1 (fun hx => ?_)
   obtain ⟨it, hit, hik⟩ := hx
   rw [List.mem_singleton] at hit
   subst hit
   exact (List.pairwise_cons.1 hw.apart).1 y hm k hik hk) (hw.item y (.tail _ hm)).1
theorem zm1 {P : Program} {l : zat} {H : World → Prop} {ty : TypeId} {T : Array TypeId} {x y : Operand} {k k' : IntKind} {a b c : Int} (hx : evO l x = some (.int k a)) (hy : evO l y = some (.int k' b)) (he : max a b = c) : OV P (.call ⟨.builtin .max, #[x, y], T⟩) ty l H (.int k c) := ov fun _ _ _ w _ => by
 subst he
 simp only [execOp, resolve, invoke, builtin]
 simp [zax hx, zax hy, run_max_int2]
 split <;> omega
end Go.Eng
namespace Go.Proofs.YtkkfifhaobjicaaGreatDoor
open Go.RowKit Go.Eng
set_option maxRecDepth 100000
set_option maxHeartbeats 40000000
def zbh (seq n : Nat) : Nat := 2 + seq % n
theorem zwq (seq n : Nat) (hs : seq < 18446744073709551616) (hn0 : 0 < n) (hn : n < 1000000) (w : World) : Pu Tryz.prog 161 #[.int .u64 seq, .int .i64 n] w (.int .i64 (zbh seq n : Nat)) := by
 refine zbl [_, _] Tryz.func161 rfl rfl ?_
 simp only [zaa, Nat.reduceAdd]
 refine goA ?_
 obtain ⟨r, hr⟩ : ∃ r, seq % n = r := ⟨_, rfl⟩
 have hrn : r < n := by rw [← hr]; exact Nat.mod_lt _ hn0
 have hp : zbh seq n = 2 + r := by rw [zbh, hr]
 rw [hr, hp]
 refine goA ?_
 exact zc2 rfl rfl rfl
def za3 (i : Int) : Nat := if i ≤ 0 then 1 else 0
theorem zjy (i : Int) (hi : i = -1 ∨ i = 0 ∨ i = 1) (w : World) : Pu Tryz.prog 127 #[.int .i64 i] w (.int .i64 (za3 i : Nat)) := by
 refine zbl [_] Tryz.func127 rfl rfl ?_
 simp only [zaa]
 rcases hi with rfl | rfl | rfl
 ·refine goA ?_
  refine l_w rfl (zm1 (c := 0) rfl rfl (by decide)) ?_
  refine goA ?_
  refine l_w rfl (zm1 (c := 1) rfl rfl (by decide)) ?_
  refine goA ?_
  exact zc2 rfl rfl rfl
 ·refine goA ?_
  refine l_w rfl (zm1 (c := 0) rfl rfl (by decide)) ?_
  refine goA ?_
  refine l_w rfl (zm1 (c := 1) rfl rfl (by decide)) ?_
  refine goA ?_
  exact zc2 rfl rfl rfl
 ·refine goA ?_
  refine l_w rfl (zm1 (c := 1) rfl rfl (by decide)) ?_
  refine goA ?_
  refine l_w rfl (zm1 (c := 0) rfl rfl (by decide)) ?_
  refine goA ?_
  exact zc2 rfl rfl rfl
def ctI : Eng.Item := ⟨fun k => k = 1, fun w => zqg w⟩
theorem zcz (ro : Nat → Prop) : ctI.Stable ro := fun _ _ h ht => ⟨(h _ (.inr rfl)).trans ht.obj⟩
theorem zxh (d : Dk) (ok : d.D.Ok) (hkl : d.D.keep.length ≤ 1000000) (hwl : d.D.wait.length ≤ 1000000) (at_ : Nat) (hat : at_ < 9223372036854775808) (s : Bys) (n : Nat) (hn : s.length = n) (a : Option Addr) (c : Nat) (hsl : n ≤ 1000000) (w : World) (hw : ∀ it ∈ [dkI d], za2 it w) (hr : ∀ w', Fr (zap [dkI d]) w w' → Rd w' a (zaf s)) :
  Ct Tryz.prog 77 #[.pointer (some ⟨d.b, 0, none⟩), .int .i64 at_, .slice a n c] w (zap [dkI d]) (fun _ : Dk => .int .i64 ((zb1 d.D at_ s).1 : Nat)) (zjq d (zb1 d.D at_ s).2) (fun d' => [dkI d']) := by
 subst hn
 exact zuu d ok hkl hwl at_ hat s a c hsl w hw hr
theorem zlm {D : Dsk} (ok : D.Ok) (at_ : Nat) (s : Bys) (h0 : (zb1 D at_ s).1 = 0) : (zb1 D at_ s).2.Ok ∧ (zb1 D at_ s).2.keep = D.keep ∧ (zb1 D at_ s).2.wait = D.wait ++ [(s, at_)] ∧ (zb1 D at_ s).2.on = D.on ∧ s.length = 512 ∧ at_ < D.on.length := by
 unfold zb1 at h0 ⊢
 by_cases hd : D.dead = true
 ·rw [if_pos hd] at h0; cases h0
 ·rw [if_neg hd] at h0 ⊢
  by_cases ha : at_ < D.on.length
  ·rw [if_neg (fun h => h ha)] at h0 ⊢
   by_cases hl : s.length = 512
   ·rw [if_neg (fun h => h hl)] at h0 ⊢
    by_cases he : (zgs D).1 = 0
    ·obtain ⟨hw, ho, hdd, hk⟩ := zji he
     rw [if_pos he]
     have hok := zq0 ok
     refine ⟨⟨hok.size, fun p hp => ?_, hok.many, hok.left⟩, hk, by simp only; rw [hw], ho, hl, ha⟩
     rcases List.mem_append.1 hp with hp | hp
     ·exact hok.wsize p hp
     ·rw [List.mem_singleton] at hp
      subst hp
      exact ⟨hl, by simp only; rw [ho]; exact ha⟩
    ·rw [if_neg he] at h0; exact absurd h0 he
   ·rw [if_pos hl] at h0; cases h0
  ·rw [if_pos ha] at h0; cases h0
def zbx (D : Dsk) (at_ : Nat) (h : Hd) : Nat × Dsk := if (zb1 D at_ (hdP h)).1 = 0 then zb8 (zb1 D at_ (hdP h)).2 else zb1 D at_ (hdP h)
theorem zo4 (d : Dk) (ok : d.D.Ok) (hkl : d.D.keep.length ≤ 1000000) (hwl : d.D.wait.length ≤ 1000000) (at_ : Nat) (hat : at_ < 9223372036854775808) (s : Hd) (hs : s.Ok) (w : World) (hw : ∀ it ∈ [dkI d, ctI], za2 it w) (ha : [dkI d, ctI].Pairwise Eng.Item.Apart) :
  Ct Tryz.prog 126 #[.pointer (some ⟨d.b, 0, none⟩), .int .i64 at_, .agg (hdA s)] w (zap [dkI d, ctI]) (fun _ : Dk => .int .i64 ((zbx d.D at_ s).1 : Nat)) (zjq d (zbx d.D at_ s).2) (fun d' => [dkI d', ctI]) := by
 refine zbd [_, _, _] _ Tryz.func126 rfl rfl hw ha ?_
 simp only [zaa, Nat.reduceAdd]
 refine goA ?_
 refine zb0 rfl rfl fun b5 hb5 => ?_
 refine goA ?_
 refine ze5 rfl rfl (by kernel_rfl) rfl (fun w1 hw1 => zrm s hs w1 (hw1.item ctI (.tail _ (.tail _ (.head _)))).1) fun x hx => ?_
 refine goA ?_
 refine zea (fun w hw => (zav (hw.item (own 5 1 x 512 (zaf (hdP s))) (.head _)).1)) fun ⟨hsl, hcap⟩ => ?_
 rw [hsl]
 refine zae rfl (zak (zc9 _ _ _ _) (zba (pre := [dkI d]) rfl (by kernel_rfl) rfl (by first | (simp [zac, zab, zdn]; done) | (intro it hm; (iterate 6 (all_goals try (rcases hm with _ | ⟨_, hm⟩))) <;> first | exact zad _ | exact zac _ _ _ | exact zab _ _ _ _ _ _)) (fun w1 hw1 hh1 ha1 => zxh d ok hkl hwl at_ hat (hdP s) 512 (ztr hs.note) (slA x) (slC x) (by decide) w1 hh1 (fun w2 hw2 => zbn (hw1.still (.head _) (zab _ _ _ _ _ _) hw2))))) fun ⟨x, hx⟩ => ?_
 refine goA ?_
 unfold zbx
 by_cases he : (zb1 d.D at_ (hdP s)).1 = 0
 ·obtain ⟨hok, hk, hwt, -⟩ := zlm ok at_ (hdP s) he
  rw [if_pos he, he]
  dsimp only
  obtain ⟨h1, h2, h3⟩ := hx
  rw [← h3] at hok hk hwt ⊢
  refine goA ?_
  rw [← h1]
  refine zae rfl (zba (pre := [dkI x]) rfl (by kernel_rfl) rfl (by intro it hm; rcases hm with _ | ⟨_, hm⟩ <;> first | exact zad _ | exact (nomatch hm)) (fun w1 hw1 hh1 ha1 => zj6 x hok (by rw [hk]; exact hkl) (by rw [hwt, List.length_append]; exact Nat.le_trans (Nat.add_le_add_right hwl 1) (by decide)) w1 hh1)) fun ⟨y, hy⟩ => ?_
  dsimp only
  refine goA ?_
  exact zbw y rfl rfl rfl ⟨hy.1.trans h1, hy.2.1.trans h2, hy.2.2⟩ (.cons_cons _ (.cons _ (.cons _ (.refl _)))) (by intro it hm; rcases hm with _ | ⟨_, _ | ⟨_, hm⟩⟩ <;> first | exact zad _ | exact zcz _ | exact (nomatch hm))
 ·rw [if_neg he]
  dsimp only
  have hne : (((zb1 d.D at_ (hdP s)).1 : Int) != 0) = true := by simp [he]
  rw [hne]
  refine goA ?_
  exact zbw x rfl rfl rfl hx (.cons_cons _ (.cons _ (.cons _ (.refl _)))) (by intro it hm; rcases hm with _ | ⟨_, _ | ⟨_, hm⟩⟩ <;> first | exact zad _ | exact zcz _ | exact (nomatch hm))
end Go.Proofs.YtkkfifhaobjicaaGreatDoor
