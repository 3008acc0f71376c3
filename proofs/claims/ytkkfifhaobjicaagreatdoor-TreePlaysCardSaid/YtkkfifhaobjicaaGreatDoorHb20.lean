/- package disk: acts, writes, flushes. -/
/- package disk: Write, Fuse, Crash, Start, New. -/
/- package sheet: how many sheets; a sheet's sector. -/
import Derived.Test.YtkkfifhaobjicaaGreatDoorHb19
import Derived.Test.YtkkfifhaobjicaaGreatDoorHb17
import Derived.Test.YtkkfifhaobjicaaGreatDoorHb18
namespace Go.Proofs.YtkkfifhaobjicaaGreatDoor
open Go.RowKit Go.Eng
set_option maxRecDepth 100000
set_option maxHeartbeats 40000000
theorem zv8 {d : Dk} {w : World} (h : (dkI d).prop w) (i : Nat) {v : Value} (hv : (zer d)[i]? = some v) : w.cell? ⟨d.b, i, none⟩ = some v :=
 zdx (h.1 (pt d.b (.cells (zer d).toArray 149 (0, 0))) (.head _)).1 (by rw [List.getElem?_toArray]; exact hv)
theorem zsx {d : Dk} {w w0 : World} {F : Nat → Prop} (h : Hp w0 F [dkI d] w) : Hp w0 F (dkL d) w := by
 have := Hp.open1 (m := []) h
 rwa [List.append_nil] at this
theorem zkt {d : Dk} {w w0 : World} {F : Nat → Prop} {m : List Eng.Item} (h : Hp w0 F (dkL d ++ m) w) : Hp w0 F (dkI d :: m) w := Hp.close1 (zr6 _) h
def zjq (d : Dk) (D' : Dsk) (d' : Dk) : Prop := d'.b = d.b ∧ d'.onB = d.onB ∧ d'.D = D'
theorem zvy (d : Dk) (ok : d.D.Ok) (hkl : d.D.keep.length ≤ 1000000) (hwl : d.D.wait.length ≤ 1000000000) (w : World) (hw : ∀ it ∈ [dkI d], za2 it w) :
  Ct Tryz.prog 118 #[.pointer (some ⟨d.b, 0, none⟩)] w (zap [dkI d]) (fun _ : Dk => .int .i64 ((zgs d.D).1 : Nat)) (zjq d (zgs d.D).2) (fun d' => [dkI d']) := by
 refine zbd [_] _ Tryz.func118 rfl rfl hw (.cons (fun _ h => nomatch h) .nil) ?_
 simp only [zaa]
 refine goA ?_
 refine l_w rfl (zaz rfl rfl (fun w' hw' => zv8 (hw'.item _ (.head _)).1 0 rfl)) ?_
 cases hl : d.D.left with
 | some n =>
  have hn := ok.left n hl
  rw [show zoz (some n) = (n : Int) from rfl]
  cases n with
  | zero =>
   have ha : zgs d.D = (4, zs7 d.D d.D.keep) := by unfold zgs; rw [hl]
   rw [ha]
   refine goA ?_
   refine l_w rfl (zaz rfl rfl (fun w' hw' => zv8 (hw'.item _ (.head _)).1 1 rfl)) ?_
   refine zae rfl (zba (pre := [dkI d]) rfl (by kernel_rfl) rfl (by first | (simp [zac, zab, zdn]; done) | (intro it hm; (iterate 6 (all_goals try (rcases hm with _ | ⟨_, hm⟩))) <;> first | exact zad _ | exact zac _ _ _ | exact zab _ _ _ _ _ _)) (fun w1 hw1 hh1 ha1 => qau d ok d.D.keep hkl hwl w1 hh1)) fun ⟨x, hx⟩ => ?_
   refine goA ?_
   exact zbw { d with w := none, D := zs7 d.D d.D.keep } rfl rfl rfl ⟨rfl, rfl, rfl⟩ (.refl _) (by simp [dkI, zad])
  | succ n =>
   have ha : zgs d.D = (0, { d.D with left := some n }) := by unfold zgs; rw [hl]
   rw [ha]
   refine goA ?_
   refine l_w rfl (zaz rfl rfl (fun w' hw' => zv8 (hw'.item _ (.head _)).1 0 (congrArg (fun z => some (Value.int .i64 (zoz z))) hl))) ?_
   rw [show zoz (some (n + 1)) = ((n + 1 : Nat) : Int) from rfl]
   refine goA ?_
   refine l_w rfl (zaz rfl rfl (fun w' hw' => zv8 (hw'.item _ (.head _)).1 0 (congrArg (fun z => some (Value.int .i64 (zoz z))) hl))) ?_
   rw [show zoz (some (n + 1)) = ((n + 1 : Nat) : Int) from rfl]
   refine goA ?_
   refine ze1 (m' := dkL d) (fun w' hw' => zsx hw') ?_
   unfold dkL
   refine za0 rfl (zaj rfl rfl rfl rfl rfl rfl (show (0 : Nat) < 6 from by decide)) fun _ => ?_
   refine goA ?_
   refine l_w rfl (zj8 rfl rfl) ?_
   refine goA ?_
   refine za0 rfl (zaj rfl rfl rfl rfl rfl rfl (show (5 : Nat) < 6 from by decide)) fun _ => ?_
   refine goA ?_
   refine zb3 (m' := [dkI { d with acts := (d.acts + 1) % 18446744073709551616, D := { d.D with left := some n } }]) (fun w' hw' => zkt (m := []) ?_) (zbw { d with acts := (d.acts + 1) % 18446744073709551616, D := { d.D with left := some n } } rfl rfl rfl ⟨rfl, rfl, rfl⟩ (.refl _) (by simp [dkI, zad]))
   rw [List.append_nil]
   exact hw'
 | none =>
  have ha : zgs d.D = (0, d.D) := by unfold zgs; rw [hl]
  rw [ha, show zoz none = -1 from rfl]
  refine goA ?_
  refine l_w rfl (zaz rfl rfl (fun w' hw' => zv8 (hw'.item _ (.head _)).1 0 (congrArg (fun z => some (Value.int .i64 (zoz z))) hl))) ?_
  rw [show zoz none = -1 from rfl]
  refine goA ?_
  refine ze1 (m' := dkL d) (fun w' hw' => zsx hw') ?_
  unfold dkL
  refine goA ?_
  refine l_w rfl (zj8 rfl rfl) ?_
  refine goA ?_
  refine za0 rfl (zaj rfl rfl rfl rfl rfl rfl (show (5 : Nat) < 6 from by decide)) fun _ => ?_
  refine goA ?_
  refine zb3 (m' := [dkI { d with acts := (d.acts + 1) % 18446744073709551616 }]) (fun w' hw' => zkt (m := []) ?_) (zbw { d with acts := (d.acts + 1) % 18446744073709551616 } rfl rfl rfl ⟨rfl, rfl, rfl⟩ (.refl _) (by simp [dkI, zad]))
  rw [List.append_nil]
  exact hw'
def zb1 (D : Dsk) (at_ : Nat) (s : Bys) : Nat × Dsk :=
 if D.dead then (4, D) else if ¬ at_ < D.on.length then (2, D) else if s.length ≠ 512 then (2, D) else
 if (zgs D).1 = 0 then (0, { (zgs D).2 with wait := (zgs D).2.wait ++ [(s, at_)] }) else zgs D
def zb8 (D : Dsk) : Nat × Dsk := if D.dead then (4, D) else if (zgs D).1 = 0 then (0, zrx (zgs D).2) else zgs D
theorem zji {D : Dsk} (h : (zgs D).1 = 0) : (zgs D).2.wait = D.wait ∧ (zgs D).2.on = D.on ∧ (zgs D).2.dead = D.dead ∧ (zgs D).2.keep = D.keep := by
 unfold zgs at h ⊢
 split
 ·exact ⟨rfl, rfl, rfl, rfl⟩
 ·rename_i hl
  rw [hl] at h; cases h
 ·exact ⟨rfl, rfl, rfl, rfl⟩
theorem zj6 (d : Dk) (ok : d.D.Ok) (hkl : d.D.keep.length ≤ 1000000) (hwl : d.D.wait.length ≤ 1000000000) (w : World) (hw : ∀ it ∈ [dkI d], za2 it w) :
  Ct Tryz.prog 78 #[.pointer (some ⟨d.b, 0, none⟩)] w (zap [dkI d]) (fun _ : Dk => .int .i64 ((zb8 d.D).1 : Nat)) (zjq d (zb8 d.D).2) (fun d' => [dkI d']) := by
 refine zbd [_] _ Tryz.func78 rfl rfl hw (.cons (fun _ h => nomatch h) .nil) ?_
 simp only [zaa]
 refine goA ?_
 refine zae rfl (zag rfl (by kernel_rfl) rfl (fun w1 hw1 => zkb d w1 (za2.of (hw1.item _ (.head _)) (zad _)))) fun _ => ?_
 unfold zb8
 cases hd : d.D.dead with
 | true =>
  simp only [if_true]
  refine goA ?_
  exact zbw d rfl rfl rfl ⟨rfl, rfl, rfl⟩ (.refl _) (by simp [dkI, zad])
 | false =>
  simp only [Bool.false_eq_true, if_false]
  refine goA ?_
  refine zae rfl (zba (pre := [dkI d]) rfl (by kernel_rfl) rfl (by first | (simp [zac, zab, zdn]; done) | (intro it hm; (iterate 6 (all_goals try (rcases hm with _ | ⟨_, hm⟩))) <;> first | exact zad _ | exact zac _ _ _ | exact zab _ _ _ _ _ _)) (fun w1 hw1 hh1 ha1 => zvy d ok hkl hwl w1 hh1)) fun ⟨x, hx⟩ => ?_
  have hok := zq0 ok
  by_cases he : (zgs d.D).1 = 0
  ·obtain ⟨hwt, hon, hdd, hkk⟩ := zji he
   rw [if_pos he, he]
   dsimp only
   obtain ⟨h1, h2, h3⟩ := hx
   rw [← h3] at hwt hon hdd hkk hok ⊢
   rw [← h1]
   have hwl2 : x.D.wait.length ≤ 1000000000 := by rw [hwt]; exact hwl
   refine goA ?_
   refine ze1 (m' := dkL x) (fun w' hw' => zsx hw') ?_
   unfold dkL
   refine zea (fun w' hw' => zav (hw'.item (own 189 513 x.w x.D.wait.length (zc3 wrV x.D.wait)) (by simp)).1) fun ⟨hv, hc⟩ => ?_
   refine goA ?_
   rw [hv]
   refine goA ?_
   refine zct (α := Nat) (fun i => [(0, .pointer (some ⟨x.b, 0, none⟩)), (20, .slice (slA x.w) x.D.wait.length (slC x.w)), (21, .int .i64 x.D.wait.length), (22, .int .i64 i)]) (fun i => i ≤ x.D.wait.length)
    (fun i => [pt x.onB (.cells (ze7 (zif x.D.on x.D.wait (fun _ => true) i)).toArray 187 (0, 0)), own 189 513 x.w x.D.wait.length (zc3 wrV x.D.wait), pt x.b (.cells (zer x).toArray 149 (0, 0))]) (fun i => x.D.wait.length - i) 0 ⟨rfl, rfl, rfl, rfl, trivial⟩ (Nat.zero_le _) (fun w' hw' => hw'.pick [1, 2, 0] rfl rfl) fun i hi => ?_
   have hmany := hok.many
   by_cases hi2 : i < x.D.wait.length
   ·obtain ⟨bw, cw, hbw⟩ : ∃ b c, x.w = some (b, c) := by
     cases h : x.w with
     | none => rw [h, show slC none = 0 from rfl] at hc; omega
     | some bc => exact ⟨bc.1, bc.2, rfl⟩
    rw [hbw]
    have hrow := fun (w' : World) (hp : (own 189 513 (some (bw, cw)) x.D.wait.length (zc3 wrV x.D.wait)).prop w') => zzg hok hi2 hp
    have hsz := hok.wsize _ (List.getElem_mem hi2)
    have hgd : x.D.wait.getD i ([], 0) = x.D.wait[i] := by rw [List.getD_eq_getElem?_getD, List.getElem?_eq_getElem hi2]; rfl
    have hup : zif x.D.on x.D.wait (fun _ => true) (i + 1) = (zif x.D.on x.D.wait (fun _ => true) i).set x.D.wait[i].2 x.D.wait[i].1 := by rw [zif, hgd, if_pos rfl]
    have h512 := zjn hok (fun _ => true) i hi
    have hal := zf9 x.D.on x.D.wait (fun _ => true) i
    generalize zif x.D.on x.D.wait (fun _ => true) i = L at hup h512 hal ⊢
    generalize x.D.wait[i] = p at hrow hsz hup
    have hwl' := zl2 hsz.1
    have hbl : (zaf p.1).length = 512 := by rw [zar, hsz.1]
    have hsl := zp6 h512
    refine goA ?_
    refine l_w rfl (zi0 (xs := wrV p) rfl (by rw [hwl']; rfl) (fun w' hw' => by rw [Nat.zero_add]; exact hrow w' (hw'.item _ (.tail _ (.head _))).1)) ?_
    refine zan rfl rfl fun b6 hb6 => ?_
    refine za0 rfl (zai (cs' := (wrV p).toArray) rfl rfl rfl (by rw [List.size_toArray, hwl']; rfl) (zsn _) (by rw [List.size_toArray, hwl']; rfl)) fun _ => ?_
    refine zye (zm3 ?_)
    refine zde [1, 0, 2, 3] rfl rfl ?_
    refine goA ?_
    refine zaq [0, 1, 2, 3] 9 rfl rfl (by kernel_rfl) ?_
    (repeat first | refine dAv [5, 7] rfl rfl rfl ?_ | refine dno [5, 7] rfl rfl rfl ?_ | refine dT [5, 7] rfl rfl rfl rfl ?_ | refine dF [5, 7] rfl rfl rfl rfl ?_)
    refine d_v [7] rfl rfl (by kernel_rfl) (fun _ h => goH h) rfl rfl (zc6 rfl rfl (.tail _ (.head _)) (by rw [List.getElem?_toArray]; exact qdf hsz.1)) ?_
    (repeat first | refine dAv [7] rfl rfl rfl ?_ | refine dno [7] rfl rfl rfl ?_ | refine dT [7] rfl rfl rfl rfl ?_ | refine dF [7] rfl rfl rfl rfl ?_)
    refine d_v [] rfl rfl (by kernel_rfl) (fun _ h => goH h) rfl rfl (zi0 (xs := zaf p.1) rfl (by rw [hbl]; rfl) (fun w' hw' => zsp (za7 (hw'.get (b := b6) (.tail _ (.head _)))))) ?_
    refine goE ?_
    refine zdk ⟨by kernel_rfl, by kernel_rfl⟩ rfl rfl (zhe (V := zaf p.1) rfl rfl rfl rfl (by rw [hbl]; rfl) (zel _) (by rw [hbl, hsl, hal]; omega)) fun _ => ?_
    rw [Nat.zero_add, zvi h512 (by rw [hal]; exact hsz.2) hsz.1, ← hup]
    refine goA ?_
    exact zay (i + 1) ⟨rfl, rfl, rfl, rfl, trivial⟩ hi2 (fun w' hw' => hw'.pick [0, 2, 3] rfl rfl) (by omega)
   ·obtain rfl : i = x.D.wait.length := by omega
    refine goA ?_
    refine za0 rfl (zak (zc9 _ _ _ _) (zaj rfl rfl rfl rfl rfl rfl (show (3 : Nat) < 6 from by decide))) fun _ => ?_
    refine goA ?_
    have hcl : (zer { x with w := none, D := zrx x.D }).toArray = (zer x).toArray.setIfInBounds (0 + 3) (.slice none 0 0) := by
     show #[_, _, Value.slice _ (zif x.D.on x.D.wait (fun _ => true) x.D.wait.length).length (zif x.D.on x.D.wait (fun _ => true) x.D.wait.length).length, _, _, _] = _
     rw [zf9]; rfl
    refine zb3 (m' := [dkI { x with w := none, D := zrx x.D }]) (fun w' hw' => zkt (m := []) ?_) (zbw { x with w := none, D := zrx x.D } rfl rfl rfl ⟨h1, h2, rfl⟩ (.refl _) (by simp [dkI, zad]))
    rw [List.append_nil]
    unfold dkL
    rw [hcl]
    exact (zd5 189 513 hw').pick [1, 2, 0] rfl rfl
  ·rw [if_neg he]
   refine goA ?_
   exact zbw x rfl rfl rfl hx (.refl _) (by simp [dkI, zad])
theorem qad {D : Dsk} (ok : D.Ok) (at_ : Nat) (s : Bys) : (zb1 D at_ s).2.Ok := by
 unfold zb1
 split
 ·exact ok
 ·split
  ·exact ok
  ·rename_i hl
   split
   ·exact ok
   ·rename_i h5
    have h := zq0 ok
    split
    ·rename_i he
     obtain ⟨h1, h2, -⟩ := zji he
     refine ⟨h.size, fun p hp => ?_, h.many, h.left⟩
     rcases List.mem_append.1 hp with hp | hp
     ·exact h.wsize p hp
     ·rw [List.mem_singleton] at hp
      subst hp
      refine ⟨by simpa using h5, ?_⟩
      show at_ < (zgs D).2.on.length
      rw [h2]
      simpa using hl
    ·exact h
theorem zix {D : Dsk} (ok : D.Ok) : (zb8 D).2.Ok := by
 unfold zb8
 split
 ·exact ok
 ·split
  ·exact qha (zq0 ok)
  ·exact zq0 ok
theorem zuu (d : Dk) (ok : d.D.Ok) (hkl : d.D.keep.length ≤ 1000000) (hwl : d.D.wait.length ≤ 1000000) (at_ : Nat) (hat : at_ < 9223372036854775808) (s : Bys) (a : Option Addr) (c : Nat) (hsl : s.length ≤ 1000000) (w : World) (hw : ∀ it ∈ [dkI d], za2 it w) (hr : ∀ w', Fr (zap [dkI d]) w w' → Rd w' a (zaf s)) :
  Ct Tryz.prog 77 #[.pointer (some ⟨d.b, 0, none⟩), .int .i64 at_, .slice a s.length c] w (zap [dkI d]) (fun _ : Dk => .int .i64 ((zb1 d.D at_ s).1 : Nat)) (zjq d (zb1 d.D at_ s).2) (fun d' => [dkI d']) := by
 refine zbd [_, _, _] _ Tryz.func77 rfl rfl hw (.cons (fun _ h => nomatch h) .nil) ?_
 simp only [zaa, Nat.reduceAdd]
 have hmany := ok.many
 refine goA ?_
 refine zae rfl (zag rfl (by kernel_rfl) rfl (fun w1 hw1 => zkb d w1 (za2.of (hw1.item _ (.head _)) (zad _)))) fun _ => ?_
 refine goA ?_
 refine zae rfl (zag rfl (by kernel_rfl) rfl (fun w1 hw1 => zn8 d at_ hat w1 (za2.of (hw1.item _ (.head _)) (zad _)))) fun _ => ?_
 refine goA ?_
 obtain ⟨e1, he1⟩ : ∃ e, (if d.D.dead then 4 else 0 : Nat) = e := ⟨_, rfl⟩
 obtain ⟨e2, he2⟩ : ∃ e, (if at_ < d.D.on.length then 0 else 2 : Nat) = e := ⟨_, rfl⟩
 obtain ⟨e3, he3⟩ : ∃ e, (if s.length = 512 then 0 else 2 : Nat) = e := ⟨_, rfl⟩
 rw [he1, he2]
 refine zdc 16 _ (.bool (decide (s.length = 512))) rfl (congrArg Value.bool (by by_cases h : s.length = 512 <;> simp [h]; omega)) ?_
 refine zae rfl (zag rfl (by kernel_rfl) rfl (fun w1 hw1 => zfm (decide (s.length = 512)) 2 w1)) fun _ => ?_
 refine zdc 17 _ (.int .i64 (e3 : Nat)) rfl (by rw [← he3]; by_cases h : s.length = 512 <;> simp [h]) ?_
 refine za0 rfl (zbc rfl rfl rfl rfl rfl rfl) fun ⟨bq, hbq⟩ => ?_
 refine zae rfl (zag rfl (by kernel_rfl) rfl (fun w1 hw1 => zkj [e1, e2, e3] (some ⟨bq, 0, none⟩) 3 (by simp) w1 (zbn (o := some (bq, 3)) (hw1.item _ (.head _)).1))) fun _ => ?_
 have hfe : zh5 [e1, e2, e3] = if e1 ≠ 0 then e1 else if e2 ≠ 0 then e2 else e3 := by
  unfold zh5
  by_cases h1 : e1 = 0
  ·by_cases h2 : e2 = 0
   ·by_cases h3 : e3 = 0
    ·simp [h1, h2, h3]
    ·simp [h1, h2, h3]
   ·simp [h1, h2]
  ·simp [h1]
 by_cases hbad : (d.D.dead = false ∧ at_ < d.D.on.length) ∧ s.length = 512
 ·obtain ⟨⟨hd, hl⟩, h5⟩ := hbad
  have hW : zb1 d.D at_ s = if (zgs d.D).1 = 0 then (0, { (zgs d.D).2 with wait := (zgs d.D).2.wait ++ [(s, at_)] }) else zgs d.D := by
   unfold zb1
   rw [hd, if_neg (by decide), if_neg (by simp [hl]), if_neg (by simp [h5])]
  have hf0 : zh5 [e1, e2, e3] = 0 := by
   rw [hfe, ← he1, ← he2, ← he3, hd, if_pos hl, if_pos h5]; rfl
  rw [hf0, hW]
  refine za1 [1] rfl rfl ?_
  refine goA ?_
  refine zae rfl (zba (pre := [dkI d]) rfl (by kernel_rfl) rfl (by first | (simp [zac, zab, zdn]; done) | (intro it hm; (iterate 6 (all_goals try (rcases hm with _ | ⟨_, hm⟩))) <;> first | exact zad _ | exact zac _ _ _ | exact zab _ _ _ _ _ _)) (fun w1 hw1 hh1 ha1 => zvy d ok hkl (by omega) w1 hh1)) fun ⟨x, hx⟩ => ?_
  have hok := zq0 ok
  by_cases he : (zgs d.D).1 = 0
  ·obtain ⟨hwt, hon, hdd, hkk⟩ := zji he
   rw [if_pos he, he]
   dsimp only
   obtain ⟨h1, h2, h3⟩ := hx
   rw [← h3] at hwt hon hdd hkk hok ⊢
   have hwl2 : x.D.wait.length ≤ 1000000 := by rw [hwt]; exact hwl
   rw [← h1]
   refine goA ?_
   refine zku (m' := dkL x) (fun w' hw' => zsx hw') ?_
   unfold dkL
   have hl5 : (zaf s).length = 512 := by rw [zar, h5]
   have hwv : (wrV (s, at_)).length = 513 := zl2 h5
   obtain ⟨b, off, rfl, -⟩ := (hr w (.refl _ _)).at_ (fun e => by have := congrArg List.length e; rw [zar, h5] at this; cases this)
   have hrow : ∀ {m : List Eng.Item} (w' : World), Hp w (zap [dkI d]) m w' → w'.rangeAt b off (zaf s) := fun w' hw' => by
    obtain ⟨b2, off2, e, h6⟩ := (hr w' hw'.fr).at_ (fun e => by rw [e] at hl5; cases hl5)
    cases e
    exact h6
   refine zde [2, 0, 1] rfl rfl ?_
   refine zaq [1, 2] 14 rfl rfl (by kernel_rfl) ?_
   (repeat first | refine dAv [6, 7, 9] rfl rfl rfl ?_ | refine dno [6, 7, 9] rfl rfl rfl ?_ | refine dT [6, 7, 9] rfl rfl rfl rfl ?_ | refine dF [6, 7, 9] rfl rfl rfl rfl ?_)
   refine d_v [7, 9] rfl rfl (by kernel_rfl) (fun _ h => goH h) rfl rfl (zuy (n := 512) (k := s.length) rfl rfl (by omega)) ?_
   refine d_v [9] rfl rfl (by kernel_rfl) (fun _ h => goH h) rfl rfl (zi0 (xs := zaf s) rfl (by rw [hl5]; rfl) (fun w' hw' => hrow w' hw')) ?_
   refine d_v [] rfl rfl (by kernel_rfl) (fun _ h => goH h) rfl rfl (zk8 (L := [(0, 512, .agg (zaf s).toArray), (512, 1, .int .i64 (at_ : Int))]) rfl rfl rfl rfl (by simp [zdh, Value.cells, hl5])) ?_
   refine zyg 37 _ (.agg (wrV (s, at_)).toArray) rfl ?_ ?_
   ·show Value.agg ((over (over _ 0 (zaf s)) 512 [Value.int .i64 (at_ : Int)]).toArray) = _
    have e : ∀ z : List Value, z.length = 513 → over (over z 0 (zaf s)) 512 [Value.int .i64 (at_ : Int)] = wrV (s, at_) := fun z hz => by
     have h1 : over z 0 (zaf s) = zaf s ++ z.drop 512 := by
      unfold over; rw [hl5]; simp
     rw [h1]
     unfold over wrV
     rw [List.take_append_of_le_length (by omega), List.take_of_length_le (by omega), List.drop_of_length_le (by simp [hl5, hz])]
     simp
    rw [e _ rfl]
   refine zau 10 ⟨by kernel_rfl, by decide⟩ rfl rfl (zbc (L := [(0, 513, .agg (wrV (s, at_)).toArray)]) rfl rfl rfl rfl rfl (qq2 (by rw [List.size_toArray, hwv]) (by decide))) (fun _ _ h => goH h) fun ⟨bp, hbp⟩ => ?_
   refine goE ?_
   refine zau 11 ⟨by kernel_rfl, by decide⟩ rfl rfl (zak (zci _ _ _) (zdj (news := wrV (s, at_)) rfl rfl rfl rfl rfl rfl (by rw [hwv]) (zsn _) (by omega) (fun w' hw' j v hj => by rw [zc8, Nat.zero_add]; refine zbo (hw'.item _ (.tail _ (.head _))).1 j v ?_; rw [qq7 (by rw [zcu, List.length_map, List.length_range, hwv])]; exact hj))) (fun _ _ h => goH h) fun o' => ?_
   refine goE ?_
   refine zdk ⟨by kernel_rfl, by kernel_rfl⟩ rfl rfl (zak (zc9 _ _ _ _) (zaj rfl rfl rfl rfl (zc0 _ _) (zdf _ _) (show (3 : Nat) < 6 from by decide))) fun _ => ?_
   refine goA ?_
   have hrw : zc3 wrV x.D.wait ++ wrV (s, at_) = zc3 wrV (x.D.wait ++ [(s, at_)]) := by rw [zit, qev]
   have hlw : x.D.wait.length + 1 = (x.D.wait ++ [(s, at_)]).length := by simp
   rw [hrw, hlw]
   refine zb3 (m' := [dkI { x with w := o', D := { x.D with wait := x.D.wait ++ [(s, at_)] } }]) (fun w' hw' => zkt (m := []) ?_) (zbw { x with w := o', D := { x.D with wait := x.D.wait ++ [(s, at_)] } } rfl rfl rfl ⟨h1, h2, rfl⟩ (.refl _) (by simp [dkI, zad]))
   rw [List.append_nil]
   unfold dkL
   exact hw'.pick [0, 3, 1] rfl rfl
  ·rw [if_neg he]
   refine goA ?_
   exact zbw x rfl rfl rfl hx (.refl _) (by simp [dkI, zad])
 ·have hne : zh5 [e1, e2, e3] ≠ 0 ∧ zb1 d.D at_ s = (zh5 [e1, e2, e3], d.D) := by
   rw [hfe, ← he1, ← he2, ← he3]
   unfold zb1
   cases hd : d.D.dead with
   | true => simp
   | false =>
    by_cases hl : at_ < d.D.on.length
    ·have h5 : ¬ s.length = 512 := fun h => hbad ⟨⟨hd, hl⟩, h⟩
     simp [hl, h5]
    ·simp [hl]
  obtain ⟨hne, hW⟩ := hne
  rw [hW]
  generalize zh5 [e1, e2, e3] = e at hne
  refine goA ?_
  exact zbw d rfl rfl rfl ⟨rfl, rfl, rfl⟩ (.cons _ (.refl _)) (by simp [dkI, zad])
def zt9 (n : Nat) : Dsk := ⟨List.replicate n (List.replicate 512 0), [], none, [], false⟩
theorem qcv {n : Nat} (hn : n ≤ 4096) : (zt9 n).Ok :=
 ⟨fun s hs => by rw [List.eq_of_mem_replicate hs, List.length_replicate], fun _ h => (nomatch h), by show (List.replicate _ _).length ≤ _; rw [List.length_replicate]; exact hn, fun _ h => (nomatch h)⟩
theorem qp9 (N j : Nat) (h : j < (zaf (List.replicate N 0)).toArray.size) : (zaf (List.replicate N 0)).toArray[j] = .int .u8 0 := by simp [zaf]
theorem qdc (k : Nat) : zcu (.agg (zaf (List.replicate 512 0)).toArray) k = List.replicate k (.int .u8 0) := by
 unfold zcu
 apply List.ext_getElem?
 intro i
 rw [List.getElem?_map, List.getElem?_replicate]
 by_cases hi : i < k
 ·rw [List.getElem?_range hi, if_pos hi, Option.map_some]
  congr 1
  have hs : (Value.agg (zaf (List.replicate 512 0)).toArray).cells.size = 512 := by
   show (zaf (List.replicate 512 0)).toArray.size = 512
   rw [List.size_toArray, zar, List.length_replicate]
  have h5 : i % 512 < 512 := Nat.mod_lt _ (by decide)
  rw [hs]
  show (zaf (List.replicate 512 0)).toArray[i % 512]! = _
  rw [getElem!_pos _ _ (by rw [List.size_toArray, zar, List.length_replicate]; exact h5)]
  exact qp9 512 _ _
 ·rw [List.getElem?_eq_none (by simpa using hi), if_neg hi]; rfl
theorem qgj (n : Nat) : ze7 (List.replicate n (List.replicate 512 0)) = List.replicate (n * 512) (.int .u8 0) := by
 have hb : zaf (List.replicate 512 0) = List.replicate 512 (.int .u8 0) := by simp [zaf]
 induction n with
 | zero => rfl
 | succ n ih =>
  have e : ze7 (List.replicate (n + 1) (List.replicate 512 0)) = zaf (List.replicate 512 0) ++ ze7 (List.replicate n (List.replicate 512 0)) := by
   rw [List.replicate_succ]; simp [ze7]
  rw [e, ih, hb, List.replicate_append_replicate]
  congr 1
  omega
theorem qax (n : Nat) (hn : 1 ≤ n ∧ n ≤ 4096) (w : World) :
  Ct Tryz.prog 49 #[.int .i64 n] w none' (fun d : Dk => .tuple #[.pointer (some ⟨d.b, 0, none⟩), .int .i64 0]) (fun d => d.D = zt9 n) (fun d => [dkI d]) := by
 refine zfo [_] Tryz.func49 rfl rfl ?_
 simp only [zaa]
 refine goA ?_
 refine za0 rfl (zwt rfl rfl rfl rfl rfl (by omega)) fun ⟨ob, hob⟩ => ?_
 refine goA ?_
 refine zdc 13 _ (.agg #[.int .i64 (-1), .string ⟨#[]⟩, .slice (some ⟨ob, 0, none⟩) n n, .slice none 0 0, .bool false, .int .u64 0]) rfl rfl ?_
 refine zb0 rfl rfl fun b hb => ?_
 refine goA ?_
 have hz : zcu (.agg (zaf (List.replicate 512 0)).toArray) (n * 512) = ze7 (zt9 n).on := by rw [qdc]; exact (qgj n).symm
 refine zb3 (m' := [dkI ⟨b, ob, none, 0, zt9 n⟩]) (fun w' hw' => zkt (m := []) ?_) (zdq ⟨b, ob, none, 0, zt9 n⟩ rfl rfl rfl rfl rfl (.refl _) (by simp [dkI, zad]))
 rw [List.append_nil]
 unfold dkL
 rw [← hz]
 show Hp w none' [pt b (.cells #[_, _, Value.slice _ (List.replicate n (List.replicate 512 0)).length (List.replicate n (List.replicate 512 0)).length, _, _, _] _ _), _, _] w'
 rw [List.length_replicate]
 exact (zd5 189 513 hw').pick [1, 2, 0] rfl rfl
theorem ziu (a a' : Option Addr) (n n' c c' : Nat) (x y : Bys) (hx : x.length = n) (hy : y.length = n') (w : World) (h1 : Rd w a (zaf x)) (h2 : Rd w a' (zaf y)) :
  Pu Tryz.prog 140 #[.slice a n c, .slice a' n' c'] w (.bool (decide (x = y))) := by
 refine zbl [_, _] Tryz.func140 rfl rfl ?_
 simp only [zaa, Nat.reduceAdd]
 refine goA ?_
 refine l_w rfl (zrz rfl hx.symm rfl rfl (fun w1 hw1 => h1.keep hw1)) ?_
 refine goA ?_
 refine l_w rfl (zrz rfl hy.symm rfl rfl (fun w1 hw1 => h2.keep hw1)) ?_
 refine goA ?_
 have e : seq ⟨x.toArray⟩ ⟨y.toArray⟩ = decide (x = y) := by
  rw [qi2, Bool.eq_iff_iff]
  simp
 rw [e]
 exact zc2 rfl rfl rfl
def zbb (n : Nat) : Nat := max 1 ((n + 496) / 497)
def qqv (x : W32) : W32 := (x >>> 8 &&& 16711935#32) ||| ((x &&& 16711935#32) <<< 8)
def qi6 (x : W32) : W32 := qqv x >>> 16 ||| qqv x <<< 16
theorem qgc (x : W32) (w : World) : Pu Tryz.prog 192 #[w32 x] w (w32 (qi6 x)) := by
 refine zbl [_] Tryz.func192 rfl rfl ?_
 simp only [zaa]
 refine goW ?_
 exact zc2 rfl rfl rfl
structure Sht where
 seq : Nat
 last : Bool
 text : Bys
abbrev zrq (s : Sht) : Array Value := #[.int .u64 (s.seq : Int), .bool s.last, .string ⟨s.text.toArray⟩]
def qgz (s : Sht) : Bys := beN 8 s.seq ++ beN 1 (if s.last then 2 else 1) ++ beN 2 s.text.length ++ s.text ++ List.replicate (497 - s.text.length) 0
def zno (s : Sht) : Bys := qgz s ++ beN 4 (qi6 (zty (qgz s))).toNat
theorem qae {s : Sht} (h : s.text.length ≤ 497) : (qgz s).length = 508 := by
 simp only [qgz, List.length_append, zao, List.length_replicate]; omega
theorem qam {s : Sht} (h : s.text.length ≤ 497) : (zno s).length = 512 := by
 rw [zno, List.length_append, qae h, zao]
theorem zwr (s : Sht) (hq : s.seq < 18446744073709551616) (ht5 : s.text.length ≤ 497) (w : World) (ht : zqg w) :
  Ct Tryz.prog 181 #[.agg (zrq s)] w none' (fun o : Option (Nat × Nat) => .tuple #[slV o 512, .int .i64 0]) (fun _ => True) (fun o => [own 5 1 o 512 (zaf (zno s))]) := by
 refine zfo [_] Tryz.func181 rfl rfl ?_
 simp only [zaa]
 have htl := bal s.text
 refine goA ?_
 refine zb0 rfl rfl fun b1 hb1 => ?_
 refine goA ?_
 obtain ⟨kd, hkd⟩ : ∃ k, (if s.last then 2 else 1 : Nat) = k := ⟨_, rfl⟩
 have hk2 : kd < 256 := by rw [← hkd]; split <;> omega
 refine goA ?_
 refine zm8 (w0 := w) (F := none') (α := Unit) (fun _ => [(1, .pointer (some ⟨b1, 0, none⟩)), (4, .int .u64 kd)]) (fun _ => True) (fun _ => [pt b1 (.cells (zrq s) 238 (0, 0))]) ?_ fun _ _ => ?_
 ·cases hl : s.last with
  | true =>
   rw [hl, if_pos rfl] at hkd
   subst hkd
   refine goA ?_
   exact zd1 () ⟨rfl, rfl, trivial⟩ trivial (fun w' hw' => hw')
  | false =>
   rw [hl, if_neg (by decide)] at hkd
   subst hkd
   refine goA ?_
   exact zd1 () ⟨rfl, rfl, trivial⟩ trivial (fun w' hw' => hw')
 ·have hX : qgz s = beN 8 s.seq ++ beN 1 kd ++ beN 2 s.text.length ++ s.text ++ List.replicate (497 - s.text.length) 0 := by rw [← hkd]; rfl
  have hXl := qae  ht5
  refine goA ?_
  refine zaq [0] 15 rfl rfl (by kernel_rfl) ?_
  refine goE ?_
  refine zau 0 ⟨by kernel_rfl, by decide⟩ rfl rfl (qck rfl (by kernel_rfl) rfl (fun w1 hw1 => zln w1)) (fun _ _ h => goH h) fun ⟨b, hb⟩ => ?_
  refine goE ?_
  refine zau 3 ⟨by kernel_rfl, by decide⟩ rfl rfl (zba (pre := pks b none []) rfl (by kernel_rfl) rfl (by simp [zac, zab]) (fun w1 hw1 hh1 ha1 => zlu b none [] s.seq hq (by decide) w1 hh1 ha1)) (fun _ _ h => goH h) fun ⟨o1, _⟩ => ?_
  rw [List.nil_append]
  refine goE ?_
  refine zau 5 ⟨by kernel_rfl, by decide⟩ rfl rfl (zba (pre := pks b o1 (beN 8 s.seq)) rfl (by kernel_rfl) rfl (by simp [zac, zab]) (fun w1 hw1 hh1 ha1 => zd7 b o1 _ 1 kd (.inl rfl) (by omega) (by rw [zao]; decide) w1 hh1 ha1)) (fun _ _ h => goH h) fun ⟨o2, _⟩ => ?_
  refine goE ?_
  refine zau 10 ⟨by kernel_rfl, by decide⟩ rfl rfl (zba (pre := pks b o2 (beN 8 s.seq ++ beN 1 kd)) rfl (by kernel_rfl) rfl (by simp [zac, zab]) (fun w1 hw1 hh1 ha1 => zd7 b o2 _ 2 s.text.length (.inr (.inl rfl)) (by omega) (by rw [List.length_append, zao, zao]; decide) w1 hh1 ha1)) (fun _ _ h => goH h) fun ⟨o3, _⟩ => ?_
  refine goE ?_
  refine zau 13 ⟨by kernel_rfl, by decide⟩ rfl rfl (zba (pre := pks b o3 (beN 8 s.seq ++ beN 1 kd ++ beN 2 s.text.length)) rfl (by kernel_rfl) rfl (by simp [zac, zab]) (fun w1 hw1 hh1 ha1 => zgb b o3 _ ⟨s.text.toArray⟩ (by rw [htl, List.length_append, List.length_append, zao, zao, zao]; omega) w1 hh1 ha1)) (fun _ _ h => goH h) fun ⟨o4, _⟩ => ?_
  refine goE ?_
  refine zbs (by kernel_rfl) ?_
  obtain ⟨Y, hY⟩ : ∃ Y, beN 8 s.seq ++ beN 1 kd ++ beN 2 s.text.length ++ s.text = Y := ⟨_, rfl⟩
  have hYl : Y.length = 11 + s.text.length := by rw [← hY]; simp only [List.length_append, zao]
  refine zb3 (m' := pks b o4 Y ++ [pt b1 (.cells (zrq s) 238 (0, 0))]) (fun w' hw' => by rw [← hY]; exact hw') ?_
  rw [hY] at hX
  have hXY : Y ++ List.replicate (497 - s.text.length) 0 = qgz s := hX.symm
  refine goA ?_
  rw [htl]
  refine zae rfl (zag rfl (by kernel_rfl) rfl (fun w1 hw1 => zis (497 - s.text.length) (by omega) w1)) fun _ => ?_
  have hrl : (⟨(List.replicate (497 - s.text.length) (0 : UInt8)).toArray⟩ : ByteArray).size = 497 - s.text.length := by rw [bal, List.length_replicate]
  refine zae rfl (zba (pre := pks b o4 Y) rfl (by kernel_rfl) rfl (by simp [zac, zab]) (fun w1 hw1 hh1 ha1 => zgb b o4 Y ⟨(List.replicate (497 - s.text.length) (0 : UInt8)).toArray⟩ (by rw [hrl, hYl]; omega) w1 hh1 ha1)) fun ⟨o5, _⟩ => ?_
  refine ze1 (m' := pks b o5 (qgz s)) (fun w' hw' => by rw [← hXY]; exact hw'.sub (.cons_cons _ (.cons_cons _ (.cons _ (.refl _))))) ?_
  generalize hXe : qgz s = X at hXl
  have hPe : zno s = X ++ beN 4 (qi6 (zty X)).toNat := by rw [zno, hXe]
  rw [hPe]
  have hr32 := (qi6 (zty X)).isLt
  refine goA ?_
  refine zae rfl (zba (pre := pks b o5 X) rfl (by kernel_rfl) rfl (by simp [zac, zab]) (fun w1 hw1 hh1 ha1 => zfe b o5 X (by rw [hXl]; decide) w1 hh1 ha1)) fun ⟨o6, _⟩ => ?_
  dsimp only
  refine zea (fun w hw => (zav (hw.item (own 5 1 o6 X.length (zaf X)) (.head _)).1)) fun ⟨hsl, hcap⟩ => ?_
  rw [hsl]
  refine goA ?_
  refine zae rfl (zag rfl (by kernel_rfl) rfl (fun w1 hw1 => zwa (slA o6) X.length (slC o6) X rfl (by omega) w1 (zbn (hw1.item (own 5 1 o6 X.length (zaf X)) (.head _)).1) (ht.keep hw1))) fun _ => ?_
  refine zae rfl (zag rfl (by kernel_rfl) rfl (fun w1 hw1 => qgc (zty X) w1)) fun _ => ?_
  refine goA ?_
  refine ze1 (m' := pks b o5 X) (fun w' hw' => hw'.sub (.cons _ (.cons_cons _ (.cons_cons _ (.refl _))))) ?_
  refine zae rfl (zba (pre := pks b o5 X) rfl (by kernel_rfl) rfl (by simp [zac, zab]) (fun w1 hw1 hh1 ha1 => zd7 b o5 X 4 (qi6 (zty X)).toNat (.inr (.inr rfl)) (by omega) (by rw [hXl]; decide) w1 hh1 ha1)) fun ⟨o7, _⟩ => ?_
  refine zae rfl (zba (pre := pks b o7 (X ++ beN 4 (qi6 (zty X)).toNat)) rfl (by kernel_rfl) rfl (by simp [zac, zab]) (fun w1 hw1 hh1 ha1 => zfe b o7 _ (by rw [List.length_append, hXl, zao]; decide) w1 hh1 ha1)) fun ⟨o8, _⟩ => ?_
  have hzl : (X ++ beN 4 (qi6 (zty X)).toNat).length = 512 := by rw [List.length_append, hXl, zao]
  dsimp only
  generalize X ++ beN 4 (qi6 (zty X)).toNat = Z at hzl ⊢
  rw [hzl]
  refine goA ?_
  exact zdq o8 rfl rfl rfl rfl trivial (.cons_cons _ (List.nil_sublist _)) (by simp [zab])
end Go.Proofs.YtkkfifhaobjicaaGreatDoor
