/- tree: check, Check. Own work; no condition. -/
/- A range over a function whose iterator gives items back that are not zem before; loops that hold such ranges. Own work; no condition. -/
import Derived.Test.YtkkfifhaobjicaaGreatDoorHb44
import Derived.Test.YtkkfifhaobjicaaGreatDoorHb25
namespace Go.Proofs.YtkkfifhaobjicaaGreatDoor
open Go.RowKit Go.Eng Go.Eng.Bm Go.Eng.Tr
set_option maxRecDepth 100000
set_option maxHeartbeats 40000000
theorem zn7 {s : Sh} {N : Nat} {g : Sg} {d : Nat} {at_ : Int} {fr be : K} {rb : Bool} {p : Prt} (hl : zgm s N g (d + 1) at_ fr be rb = .ok p) : ∃ n, zen s N g at_ = .ok n ∧ (rb = true ∨ zht s n = false) ∧ (∀ k ∈ n.keys, Bnd fr be k) ∧
  ((n.leaf = true ∧ n.keys.length ≠ 0 ∧ p = ⟨n.keys.length, 1, 1⟩) ∨ (n.leaf = false ∧ zjp (fun at_ fr be => zgm s N g d (at_ : Nat) fr be false) n.keys fr be n.kids 0 ⟨0, 1, 0⟩ = .ok p)) := by
 rw [zgm] at hl
 obtain ⟨n, h1, h2⟩ := zbt hl
 refine ⟨n, h1, ?_⟩
 by_cases c1 : rb = false ∧ zht s n = true
 ·rw [if_pos c1] at h2; cases h2
 ·rw [if_neg c1] at h2
  refine ⟨by cases rb <;> cases hp : zht s n <;> simp_all, ?_⟩
  by_cases c2 : ∀ k ∈ n.keys, Bnd fr be k
  ·rw [if_pos c2] at h2
   refine ⟨c2, ?_⟩
   cases hlf : n.leaf with
   | true =>
    rw [if_pos hlf] at h2
    by_cases c3 : n.keys.length = 0
    ·rw [if_pos c3] at h2; cases h2
    ·rw [if_neg c3] at h2; cases h2
     exact .inl ⟨rfl, c3, rfl⟩
   | false =>
    rw [if_neg (by rw [hlf]; decide)] at h2
    exact .inr ⟨rfl, h2⟩
  ·rw [if_neg c2] at h2; cases h2
theorem zml {ck : Nat → K → K → Except Nat Prt} {keys : List K} {fr be : K} {kid : Nat} {l : List Nat} {i : Nat} {out p : Prt} (h : zjp ck keys fr be (kid :: l) i out = .ok p) : ∃ q, ck kid (loF fr keys i) (hiF be keys i) = .ok q ∧ ¬ (i ≠ 0 ∧ out.deep ≠ q.deep + 1) ∧ zjp ck keys fr be l (i + 1) ⟨out.keys + q.keys, out.pages + q.pages, q.deep + 1⟩ = .ok p := by
 rw [zjp] at h
 obtain ⟨q, h1, h2⟩ := zbt h
 refine ⟨q, h1, ?_⟩
 by_cases c : i ≠ 0 ∧ out.deep ≠ q.deep + 1
 ·rw [if_pos c] at h2; cases h2
 ·rw [if_neg c] at h2
  exact ⟨c, h2⟩
theorem zz8 {ck : Nat → K → K → Except Nat Prt} {keys : List K} {fr be : K} : ∀ {l : List Nat} {i : Nat} {out p : Prt}, zjp ck keys fr be l i out = .ok p → out.keys ≤ p.keys ∧ out.pages ≤ p.pages
 | [], _, _, _, h => by rw [zjp] at h; cases h; exact ⟨Nat.le_refl _, Nat.le_refl _⟩
 | _ :: l, i, out, p, h => by
  obtain ⟨q, -, -, h3⟩ := zml h
  have := zz8 h3
  simp only at this
  omega
theorem zsb {ck : Nat → K → K → Except Nat Prt} {keys : List K} {fr be : K} {m : Nat} (hm : ∀ a lo hi q, ck a lo hi = .ok q → q.deep ≤ m) : ∀ {l : List Nat} {i : Nat} {out p : Prt}, zjp ck keys fr be l i out = .ok p → out.deep ≤ m + 1 → p.deep ≤ m + 1
 | [], _, _, _, h, ho => by rw [zjp] at h; cases h; exact ho
 | _ :: l, i, out, p, h, ho => by
  obtain ⟨q, h1, -, h3⟩ := zml h
  exact zsb hm h3 (Nat.succ_le_succ (hm _ _ _ _ h1))
theorem zkh {s : Sh} {N : Nat} {g : Sg} : ∀ {d : Nat} {at_ : Int} {fr be : K} {rb : Bool} {p : Prt}, zgm s N g d at_ fr be rb = .ok p → p.deep ≤ d
 | 0, _, _, _, _, _, h => by rw [zgm] at h; cases h
 | d + 1, _, _, _, _, _, h => by
  obtain ⟨n, -, -, -, h2⟩ := zn7 h
  rcases h2 with ⟨-, -, rfl⟩ | ⟨-, h2⟩
  ·exact Nat.succ_le_succ (Nat.zero_le _)
  ·exact zsb (fun a lo hi q hq => zkh hq) h2 (Nat.zero_le _)
def prA (p : Prt) : Array Value := #[.int .i64 (p.keys : Int), .int .i64 (p.pages : Int), .int .i64 (p.deep : Int)]
def prV (p : Prt) : Value := .agg (prA p)
theorem qfk (c : Tc) (root : Int) : ∀ (d : Nat) (g : Sg) (s : Pg) (at_ : Int) (fr be : K) (rb : Bool) {p : Prt}, Tok c g s → d ≤ 16 → zgm c.sh c.N g d at_ fr be rb = .ok p → p.keys ≤ 1000000000 → p.pages ≤ 1000000000 → ∀ w : World, (∀ it ∈ [tmI c root s], za2 it w) →
  Ct Tryz.prog 44 #[.pointer (some ⟨c.t, 0, none⟩), .int .i64 at_, .int .i64 (d : Nat), kV fr, kV be, .bool rb] w (zap [tmI c root s]) (fun _ : Pg => prV p) (fun s' => Tok c g s') (fun s' => [tmI c root s']) := by
 intro d
 induction d with
 | zero =>
  intro g s at_ fr be rb p _ _ hl
  rw [zgm] at hl; cases hl
 | succ d ih =>
  intro g s at_ fr be rb p h hd hl hpk hpp w hw
  have hdeep := zkh hl
  obtain ⟨n, h1, hpoor, hbnd, hcase⟩ := zn7 hl
  obtain ⟨hmay, i0, hi0, hi1, hi2⟩ := zfk h1
  subst hi0
  obtain ⟨hnb, hb1, hb2, hb3⟩ := ziz h.sh hmay
  refine zbd [_, _, _, _, _, _] _ Tryz.func44 rfl rfl hw (.cons (fun _ h => nomatch h) .nil) ?_
  simp only [zaa, Nat.reduceAdd]
  refine goA ?_
  refine zan rfl rfl fun b12 hb12 => ?_
  refine goA ?_
  refine zae rfl (zag rfl (by kernel_rfl) rfl (fun w1 hw1 => zlq (by omega) _ w1)) fun _ => ?_
  refine goA ?_
  refine za1 [1, 0] rfl rfl ?_
  refine zae rfl (zba (pre := [tmI c root s]) rfl (by kernel_rfl) rfl (zah c root s) (fun w1 hw1 hh1 ha1 => zj4 h root i0 h1 w1 hh1)) fun ⟨⟨s1, o⟩, hs1⟩ => ?_
  have hs1 : Tok c g s1 := hs1
  dsimp only
  refine goA ?_
  refine zan rfl rfl fun b13 hb13 => ?_
  refine za0 rfl (zai (cs' := ndO n o) rfl rfl rfl rfl (zcx n o) rfl) fun _ => ?_
  unfold ndI
  simp only [List.cons_append, List.nil_append]
  refine zye (zm3 (zv6 ?_))
  refine zm8 (w0 := w) (F := zap [tmI c root s]) (α := Unit) (fun _ => [(0, .pointer (some ⟨c.t, 0, none⟩)), (2, .int .i64 ((d + 1 : Nat) : Int)), (3, kV fr), (4, kV be), (12, .pointer (some ⟨b12, 0, none⟩)), (13, .pointer (some ⟨b13, 0, none⟩))]) (fun _ => True) (fun _ => [pt b13 (.cells (ndO n o) 101 (0, 0)), tmI c root s1, own 9 1 o.k n.keys.length (n.keys.map kV), own 9 1 o.v n.vals.length (n.vals.map kV), own 3 1 o.d n.kids.length (n.kids.map iV), pt b12 (.cells #[.int .i64 0, .int .i64 0, .int .i64 0] 112 (0, 0))]) ?_ fun _ _ => ?_
  ·cases rb with
   | true =>
    refine goA ?_
    refine zae rfl (zag rfl (by kernel_rfl) rfl (fun w1 hw1 => zef _ w1)) fun _ => ?_
    refine goA ?_
    exact zd1 () ⟨rfl, rfl, rfl, rfl, rfl, rfl, trivial⟩ trivial (fun w' hw' => hw')
   | false =>
    have hpo : decide (zv2 c.sh n ≤ 0) = true := by
     rcases hpoor with h | h
     ·cases h
     ·have := ztu c.sh n
      rw [h] at this
      have := of_decide_eq_false this
      exact decide_eq_true (by omega)
    refine goA ?_
    refine zae rfl (zag rfl (by kernel_rfl) rfl (fun w1 hw1 => qag hs1 root hmay w1 (za2.of (hw1.item (tmI c root s1) mm) (zad _)) (zc7 hw1 mm mm mm))) fun _ => ?_
    refine goA ?_
    rw [hpo]
    refine zae rfl (zag rfl (by kernel_rfl) rfl (fun w1 hw1 => zef _ w1)) fun _ => ?_
    refine goA ?_
    exact zd1 () ⟨rfl, rfl, rfl, rfl, rfl, rfl, trivial⟩ trivial (fun w' hw' => hw')
  ·refine zf2 (fun w hw => And.intro (zav (hw.item (own 9 1 o.k n.keys.length (n.keys.map kV)) mm).1).1 (And.intro (zav (hw.item (own 9 1 o.v n.vals.length (n.vals.map kV)) mm).1).1 (zav (hw.item (own 3 1 o.d n.kids.length (n.kids.map iV)) mm).1).1)) fun ⟨f1, f2, f3⟩ => ?_
   unfold ndO
   rw [f1, f2, f3]
   refine goA ?_
   refine zct (α := Nat) (fun i => [(0, .pointer (some ⟨c.t, 0, none⟩)), (2, .int .i64 ((d + 1 : Nat) : Int)), (3, .string (kB fr)), (4, .string (kB be)), (12, .pointer (some ⟨b12, 0, none⟩)), (13, .pointer (some ⟨b13, 0, none⟩)), (37, .slice (slA o.k) n.keys.length (slC o.k)), (38, .int .i64 (n.keys.length : Int)), (39, .int .i64 (i : Nat))]) (fun i => i ≤ n.keys.length) (fun _ => _) (fun i => n.keys.length - i) 0 ⟨rfl, rfl, rfl, rfl, rfl, rfl, rfl, rfl, rfl, trivial⟩ (Nat.zero_le _) (fun w' hw' => hw') fun i hi => ?_
   by_cases hlt : i < n.keys.length
   ·refine zf2 (fun w hw => zbq (hw.item (own 9 1 o.k n.keys.length (n.keys.map kV)) mm).1 (by omega)) fun ⟨kb, kc, e⟩ => ?_
    obtain ⟨kq, hkq⟩ : ∃ x, n.keys[i]? = some x := ⟨_, List.getElem?_eq_getElem hlt⟩
    obtain ⟨ok, ov, od⟩ := o
    simp only at e ⊢
    subst e
    simp only [zga, zf3]
    refine goA ?_
    refine l_w rfl (zaz (v := .string (kB kq)) rfl rfl (fun w' hw' => zbo (hw'.item (own 9 1 (some (kb, kc)) n.keys.length (n.keys.map kV)) mm).1 _ _ (by simp only [Nat.zero_add]; rw [List.getElem?_map, hkq]; rfl))) ?_
    obtain ⟨hb1', hb2'⟩ := hbnd kq (List.mem_of_getElem? hkq)
    refine goA ?_
    rw [ze2, ze2, zrn, decide_eq_false hb1']
    by_cases hbe : be = []
    ·refine goA ?_
     rw [show seq (kB be) ⟨#[]⟩ = decide (be = []) from zjx be [], decide_eq_true hbe]
     refine goA ?_
     refine zae rfl (zag rfl (by kernel_rfl) rfl (fun w1 hw1 => zef _ w1)) fun _ => ?_
     refine goA ?_
     exact zay (i + 1) ⟨rfl, rfl, rfl, rfl, rfl, rfl, rfl, rfl, rfl, trivial⟩ (by omega) (fun w' hw' => hw') (by omega)
    ·have hb3' := hb2'.resolve_left hbe
     refine goA ?_
     rw [show seq (kB be) ⟨#[]⟩ = decide (be = []) from zjx be [], decide_eq_false hbe]
     refine goA ?_
     rw [ze2, ze2, zrn, decide_eq_true hb3']
     refine zae rfl (zag rfl (by kernel_rfl) rfl (fun w1 hw1 => zef _ w1)) fun _ => ?_
     refine goA ?_
     exact zay (i + 1) ⟨rfl, rfl, rfl, rfl, rfl, rfl, rfl, rfl, rfl, trivial⟩ (by omega) (fun w' hw' => hw') (by omega)
   ·rcases hcase with ⟨hlf, hk0, rfl⟩ | ⟨hlf, hkc⟩
    ·rw [hlf]
     refine goA ?_
     refine zae rfl (zag rfl (by kernel_rfl) rfl (fun w1 hw1 => zlq (by omega) _ w1)) fun _ => ?_
     refine goA ?_
     refine za0 rfl (zak (zg1 _ _ _ _ _ _ _) (zai rfl rfl rfl rfl rfl rfl)) fun _ => ?_
     refine goA ?_
     exact zbw s1 rfl ⟨_, rfl, zas rfl (.head _)⟩ rfl hs1 (.cons _ (.cons _ (.cons_cons _ (List.nil_sublist _)))) (zah _ _ _)
    ·obtain ⟨hkr, hvs, hkl1, hk1, -⟩ := hmay.inner hlf
     rw [hlf]
     refine zf2 (fun w hw => And.intro (zbq (hw.item (own 9 1 o.k n.keys.length (n.keys.map kV)) mm).1 (by omega)) (zbq (hw.item (own 3 1 o.d n.kids.length (n.kids.map iV)) mm).1 (by omega))) fun ⟨⟨kb, kc, e⟩, ⟨db, dc, e'⟩⟩ => ?_
     obtain ⟨ok, ov, od⟩ := o
     simp only at e e' ⊢
     subst e
     subst e'
     simp only [zga, zf3]
     refine goA ?_
     refine zdc 68 _ (.agg #[.int .i64 0, .int .i64 1, .int .i64 0]) rfl rfl ?_
     refine zan rfl rfl fun b16 hb16 => ?_
     refine za0 rfl (zai rfl rfl rfl rfl rfl rfl) fun _ => ?_
     refine goA ?_
     refine zct (α := Nat × Prt × Pg) (fun y => [(0, .pointer (some ⟨c.t, 0, none⟩)), (2, .int .i64 ((d + 1 : Nat) : Int)), (3, .string (kB fr)), (4, .string (kB be)), (12, .pointer (some ⟨b12, 0, none⟩)), (13, .pointer (some ⟨b13, 0, none⟩)), (16, .pointer (some ⟨b16, 0, none⟩)), (70, .slice (some ⟨db, 0, none⟩) n.kids.length dc), (71, .int .i64 (n.kids.length : Int)), (72, .int .i64 (y.1 : Nat))]) (fun y => y.1 ≤ n.kids.length ∧ Tok c g y.2.2 ∧ zjp (fun at_ fr be => zgm c.sh c.N g d (at_ : Nat) fr be false) n.keys fr be (n.kids.drop y.1) y.1 y.2.1 = .ok p) (fun y => [pt b16 (.cells (prA y.2.1) 112 (0, 0)), pt b13 (.cells #[.bool false, .slice (some ⟨kb, 0, none⟩) n.keys.length kc, .slice (slA ov) n.vals.length (slC ov), .slice (some ⟨db, 0, none⟩) n.kids.length dc] 101 (0, 0)), tmI c root y.2.2, own 9 1 (some (kb, kc)) n.keys.length (n.keys.map kV), own 3 1 (some (db, dc)) n.kids.length (n.kids.map iV), pt b12 (.cells #[.int .i64 0, .int .i64 0, .int .i64 0] 112 (0, 0))]) (fun y => n.kids.length - y.1) (0, ⟨0, 1, 0⟩, s1) ⟨rfl, rfl, rfl, rfl, rfl, rfl, rfl, rfl, rfl, rfl, trivial⟩ ⟨Nat.zero_le _, hs1, hkc⟩ (fun w' hw' => hw'.pick [0, 1, 2, 3, 5, 6] rfl rfl) fun ⟨i, out, s2⟩ ⟨hi, h2, hk2⟩ => ?_
     simp only at hi h2 hk2 ⊢
     by_cases hlt : i < n.kids.length
     ·obtain ⟨kq, hkq⟩ : ∃ x, n.kids[i]? = some x := ⟨_, List.getElem?_eq_getElem hlt⟩
      rw [List.drop_eq_getElem_cons hlt, (List.getElem?_eq_some_iff.1 hkq).2] at hk2
      obtain ⟨q, hq1, hq2, hq3⟩ := zml hk2
      have hle := zz8 hq3
      simp only at hle hq1
      have hqd := zkh hq1
      obtain ⟨ok1, ok2, ok3⟩ : out.keys ≤ 1000000000 ∧ out.pages ≤ 1000000000 ∧ True := ⟨by omega, by omega, trivial⟩
      refine goA ?_
      refine l_w rfl (zaz (v := .int .i64 (kq : Int)) rfl rfl (fun w' hw' => zbo (hw'.item (own 3 1 (some (db, dc)) n.kids.length (n.kids.map iV)) mm).1 _ _ (by simp only [Nat.zero_add]; rw [List.getElem?_map, hkq]; rfl))) ?_
      refine goA ?_
      refine zm8 (w0 := w) (F := zap [tmI c root s]) (α := Unit) (fun _ => [(0, .pointer (some ⟨c.t, 0, none⟩)), (2, .int .i64 ((d + 1 : Nat) : Int)), (3, .string (kB fr)), (4, .string (kB be)), (12, .pointer (some ⟨b12, 0, none⟩)), (13, .pointer (some ⟨b13, 0, none⟩)), (16, .pointer (some ⟨b16, 0, none⟩)), (70, .slice (some ⟨db, 0, none⟩) n.kids.length dc), (71, .int .i64 (n.kids.length : Int)), (72, .int .i64 (i : Nat)), (17, .int .i64 (i : Nat)), (18, .int .i64 (kq : Int)), (19, kV (loF fr n.keys i)), (20, .string (kB be))]) (fun _ => True) (fun _ => [pt b16 (.cells (prA out) 112 (0, 0)), pt b13 (.cells #[.bool false, .slice (some ⟨kb, 0, none⟩) n.keys.length kc, .slice (slA ov) n.vals.length (slC ov), .slice (some ⟨db, 0, none⟩) n.kids.length dc] 101 (0, 0)), tmI c root s2, own 9 1 (some (kb, kc)) n.keys.length (n.keys.map kV), own 3 1 (some (db, dc)) n.kids.length (n.kids.map iV), pt b12 (.cells #[.int .i64 0, .int .i64 0, .int .i64 0] 112 (0, 0))]) ?_ fun _ _ => ?_
      ·by_cases h0 : 0 < i
       ·obtain ⟨kp, hkp⟩ : ∃ x, n.keys[i - 1]? = some x := ⟨_, List.getElem?_eq_getElem (by omega)⟩
        rw [show loF fr n.keys i = kp by unfold loF; rw [if_pos h0, List.getD_eq_getElem?_getD, hkp]; rfl]
        refine goA ?_
        refine l_w rfl (zaz (v := kV kp) rfl rfl (fun w' hw' => zbo (hw'.item (own 9 1 (some (kb, kc)) n.keys.length (n.keys.map kV)) mm).1 _ _ (by simp only [Nat.zero_add]; rw [List.getElem?_map, hkp]; rfl))) ?_
        refine goA ?_
        exact zd1 () ⟨rfl, rfl, rfl, rfl, rfl, rfl, rfl, rfl, rfl, rfl, rfl, rfl, rfl, rfl, trivial⟩ trivial (fun w' hw' => hw')
       ·rw [show loF fr n.keys i = fr by unfold loF; rw [if_neg h0]]
        refine goA ?_
        exact zd1 () ⟨rfl, rfl, rfl, rfl, rfl, rfl, rfl, rfl, rfl, rfl, rfl, rfl, rfl, rfl, trivial⟩ trivial (fun w' hw' => hw')
      ·refine goA ?_
       refine zm8 (w0 := w) (F := zap [tmI c root s]) (α := Unit) (fun _ => [(0, .pointer (some ⟨c.t, 0, none⟩)), (2, .int .i64 ((d + 1 : Nat) : Int)), (3, .string (kB fr)), (4, .string (kB be)), (12, .pointer (some ⟨b12, 0, none⟩)), (13, .pointer (some ⟨b13, 0, none⟩)), (16, .pointer (some ⟨b16, 0, none⟩)), (70, .slice (some ⟨db, 0, none⟩) n.kids.length dc), (71, .int .i64 (n.kids.length : Int)), (72, .int .i64 (i : Nat)), (17, .int .i64 (i : Nat)), (18, .int .i64 (kq : Int)), (19, kV (loF fr n.keys i)), (20, kV (hiF be n.keys i))]) (fun _ => True) (fun _ => [pt b16 (.cells (prA out) 112 (0, 0)), pt b13 (.cells #[.bool false, .slice (some ⟨kb, 0, none⟩) n.keys.length kc, .slice (slA ov) n.vals.length (slC ov), .slice (some ⟨db, 0, none⟩) n.kids.length dc] 101 (0, 0)), tmI c root s2, own 9 1 (some (kb, kc)) n.keys.length (n.keys.map kV), own 3 1 (some (db, dc)) n.kids.length (n.kids.map iV), pt b12 (.cells #[.int .i64 0, .int .i64 0, .int .i64 0] 112 (0, 0))]) ?_ fun _ _ => ?_
       ·by_cases h0 : i < n.keys.length
        ·obtain ⟨kp, hkp⟩ : ∃ x, n.keys[i]? = some x := ⟨_, List.getElem?_eq_getElem h0⟩
         rw [show hiF be n.keys i = kp by unfold hiF; rw [if_pos h0, List.getD_eq_getElem?_getD, hkp]; rfl]
         refine goA ?_
         refine l_w rfl (zaz (v := kV kp) rfl rfl (fun w' hw' => zbo (hw'.item (own 9 1 (some (kb, kc)) n.keys.length (n.keys.map kV)) mm).1 _ _ (by simp only [Nat.zero_add]; rw [List.getElem?_map, hkp]; rfl))) ?_
         refine goA ?_
         exact zd1 () ⟨rfl, rfl, rfl, rfl, rfl, rfl, rfl, rfl, rfl, rfl, rfl, rfl, rfl, rfl, trivial⟩ trivial (fun w' hw' => hw')
        ·rw [show hiF be n.keys i = be by unfold hiF; rw [if_neg h0]]
         refine goA ?_
         exact zd1 () ⟨rfl, rfl, rfl, rfl, rfl, rfl, rfl, rfl, rfl, rfl, rfl, rfl, rfl, rfl, trivial⟩ trivial (fun w' hw' => hw')
       ·refine goA ?_
        rw [show d + 1 - 1 = d by omega]
        refine za1 [2, 0, 1, 3, 4, 5] rfl rfl ?_
        refine zae rfl (zba (pre := [tmI c root s2]) rfl (by kernel_rfl) rfl (zah c root s2) (fun w1 hw1 hh1 ha1 => ih g s2 (kq : Nat) (loF fr n.keys i) (hiF be n.keys i) false h2 (by omega) hq1 (by omega) (by omega) w1 hh1)) fun ⟨s3, h3⟩ => ?_
        have h3 : Tok c g s3 := h3
        dsimp only
        simp only [List.cons_append, List.nil_append]
        refine goA ?_
        refine zan rfl rfl fun b21 hb21 => ?_
        refine za0 rfl (zai (cs' := prA q) rfl rfl rfl rfl rfl rfl) fun _ => ?_
        refine zye (zm3 (zv6 ?_))
        refine zm8 (w0 := w) (F := zap [tmI c root s]) (α := Unit) (fun _ => [(0, .pointer (some ⟨c.t, 0, none⟩)), (2, .int .i64 ((d + 1 : Nat) : Int)), (3, .string (kB fr)), (4, .string (kB be)), (12, .pointer (some ⟨b12, 0, none⟩)), (13, .pointer (some ⟨b13, 0, none⟩)), (16, .pointer (some ⟨b16, 0, none⟩)), (70, .slice (some ⟨db, 0, none⟩) n.kids.length dc), (71, .int .i64 (n.kids.length : Int)), (72, .int .i64 (i : Nat)), (17, .int .i64 (i : Nat)), (18, .int .i64 (kq : Int)), (21, .pointer (some ⟨b21, 0, none⟩))]) (fun _ => True) (fun _ => [pt b21 (.cells (prA q) 112 (0, 0)), pt b16 (.cells (prA out) 112 (0, 0)), pt b13 (.cells #[.bool false, .slice (some ⟨kb, 0, none⟩) n.keys.length kc, .slice (slA ov) n.vals.length (slC ov), .slice (some ⟨db, 0, none⟩) n.kids.length dc] 101 (0, 0)), tmI c root s3, own 9 1 (some (kb, kc)) n.keys.length (n.keys.map kV), own 3 1 (some (db, dc)) n.kids.length (n.kids.map iV), pt b12 (.cells #[.int .i64 0, .int .i64 0, .int .i64 0] 112 (0, 0))]) ?_ fun _ _ => ?_
        ·by_cases h0 : i = 0
         ·refine goA ?_
          refine zae rfl (zag rfl (by kernel_rfl) rfl (fun w1 hw1 => zef _ w1)) fun _ => ?_
          refine goA ?_
          exact zd1 () ⟨rfl, rfl, rfl, rfl, rfl, rfl, rfl, rfl, rfl, rfl, rfl, rfl, rfl, trivial⟩ trivial (fun w' hw' => hw'.pick [0, 2, 3, 1, 4, 5, 6] rfl rfl)
         ·have hdd : out.deep = q.deep + 1 := Classical.byContradiction fun h => hq2 ⟨h0, h⟩
          refine goA ?_
          rw [hdd]
          simp only [beq_self_eq_true]
          refine zae rfl (zag rfl (by kernel_rfl) rfl (fun w1 hw1 => zef _ w1)) fun _ => ?_
          refine goA ?_
          exact zd1 () ⟨rfl, rfl, rfl, rfl, rfl, rfl, rfl, rfl, rfl, rfl, rfl, rfl, rfl, trivial⟩ trivial (fun w' hw' => hw'.pick [0, 2, 3, 1, 4, 5, 6] rfl rfl)
        ·refine goA ?_
         refine zdc 128 _ (prV ⟨out.keys + q.keys, out.pages + q.pages, q.deep + 1⟩) rfl rfl ?_
         refine za0 rfl (zak (zci _ _ _) (zai (cs' := prA ⟨out.keys + q.keys, out.pages + q.pages, q.deep + 1⟩) rfl rfl rfl rfl rfl rfl)) fun _ => ?_
         refine goA ?_
         exact zay (i + 1, ⟨out.keys + q.keys, out.pages + q.pages, q.deep + 1⟩, s3) ⟨rfl, rfl, rfl, rfl, rfl, rfl, rfl, rfl, rfl, rfl, trivial⟩ ⟨by simp only; omega, h3, hq3⟩ (fun w' hw' => hw'.pick [0, 2, 3, 4, 5, 6] rfl rfl) (by simp only; omega)
     ·have he : n.kids.drop i = [] := List.drop_eq_nil_of_le (by omega)
      rw [he, zjp] at hk2
      cases hk2
      refine goA ?_
      refine za0 rfl (zak (zg1 _ _ _ _ _ _ _) (zai rfl rfl rfl rfl rfl rfl)) fun _ => ?_
      refine goA ?_
      exact zbw s2 rfl ⟨_, rfl, zas rfl (.head _)⟩ rfl h2 (.cons _ (.cons _ (.cons _ (.cons_cons _ (List.nil_sublist _))))) (zah _ _ _)
theorem qh0 {c : Tc} {g : Sg} {s : Pg} (h : Tok c g s) (root : Int) {a b : Nat} (hl : zme c.sh c.N g root = .ok (a, b)) (ha : a ≤ 1000000000) (hb : b ≤ 1000000000) (w : World) (hw : ∀ it ∈ [tmI c root s], za2 it w) :
  Ct Tryz.prog 16 #[.pointer (some ⟨c.t, 0, none⟩)] w (zap [tmI c root s]) (fun _ : Pg => .tuple #[.int .i64 (a : Int), .int .i64 (b : Int), .int .i64 0]) (fun s' => Tok c g s') (fun s' => [tmI c root s']) := by
 refine zz3 [_] _ Tryz.func16 rfl rfl hw (.cons (fun _ h => nomatch h) .nil) ?_
 simp only [zaa]
 refine goA ?_
 refine zeb rfl rfl rfl fun b4 hb4 => ?_
 refine goA ?_
 refine zlt (xs := [.tmp 4]) rfl rfl ?_
 refine goA ?_
 refine zae rfl (zag rfl (by kernel_rfl) rfl (fun w1 hw1 => zja h root w1 (za2.of (hw1.item (tmI c root s) mm) (zad _)))) fun _ => ?_
 refine goA ?_
 refine l_w rfl (zdv rfl mm) ?_
 refine goA ?_
 unfold zme at hl
 by_cases h0 : root = 0
 ·rw [if_pos h0] at hl
  cases hl
  subst h0
  refine goA ?_
  refine za0 rfl (zaj rfl rfl rfl rfl rfl rfl (by simp)) fun _ => ?_
  refine goA ?_
  refine zg0 (by kernel_rfl) (fun w hw => zb2 _ w) ?_
  exact zvr s rfl rfl rfl ⟨_, rfl, za8 rfl mm⟩ rfl h (.cons _ (.refl _)) (zah _ _ _)
 ·rw [if_neg h0] at hl
  obtain ⟨p, hp, hl⟩ := zbt hl
  cases hl
  refine goA ?_
  refine l_w rfl (zdv rfl mm) ?_
  refine goA ?_
  refine za1 [1, 0] rfl rfl ?_
  refine zae rfl (zba (pre := [tmI c root s]) rfl (by kernel_rfl) rfl (zah c root s) (fun w1 hw1 hh1 ha1 => qfk c root 16 g s root [] [] true h (by omega) hp ha hb w1 hh1)) fun ⟨s1, h1⟩ => ?_
  have h1 : Tok c g s1 := h1
  dsimp only
  simp only [List.cons_append, List.nil_append]
  refine goA ?_
  refine zan rfl rfl fun b5 hb5 => ?_
  refine za0 rfl (zai (cs' := prA p) rfl rfl rfl rfl rfl rfl) fun _ => ?_
  refine goA ?_
  refine zaq [0, 1] 6 rfl rfl (by kernel_rfl) ?_
  refine goE ?_
  refine ze9 [2, 0, 1] rfl rfl ?_
  refine zdk ⟨by kernel_rfl, by kernel_rfl⟩ rfl rfl (zaj rfl rfl rfl rfl rfl rfl (show (0 : Nat) < 1 from by decide)) fun _ => ?_
  refine goA ?_
  refine zg0 (by kernel_rfl) (fun w hw => zb2 _ w) ?_
  exact zvr s1 rfl rfl rfl ⟨_, rfl, za8 rfl mm⟩ rfl h1 (.cons _ (.cons _ (.cons_cons _ (List.nil_sublist _)))) (zah _ _ _)
end Go.Proofs.YtkkfifhaobjicaaGreatDoor
namespace Go.Eng
open Go.RowKit
section
variable {P : Program} {Q : Exit → Act → World → Prop} {l : zat} {w0 : World} {F : Nat → Prop} {m : List Item} {fn : Func} {R : Ending → World → Prop}
def ql3 (P : Program) (gf : FuncId) (cs : List Value) (mi : List Item) {β : Type} (mo : β → List Item) (ψ : β → Prop) {α : Type} (E : List α → α → Prop) (S : List α → Prop) (enc : α → List Value) : Prop :=
 ∀ (σ : Type) (ly : Nat) (Y : σ → Item) (I : List α → σ → Prop) (J : σ → Prop) (s0 : σ) (w : World), (∀ s, (Y s).Stable none') → I [] s0 →
  (∀ k x s, E k x → I k s → Yd P ly Y s (enc x).toArray fun b s' => (b = true ∧ I (k ++ [x]) s') ∨ (b = false ∧ J s')) →
  (∀ it ∈ Y s0 :: mi, za2 it w) → (Y s0 :: mi).Pairwise Item.Apart →
  Calls P gf (.func (.yield ly) #[] #[] :: cs).toArray w fun e w' => (∃ v, e = .returned v) ∧ ∃ s z, ψ z ∧ ((∃ k, S k ∧ I k s) ∨ J s) ∧ Its (zap (Y s0 :: mi)) w (Y s :: mo z) w'
theorem zs4 {gx : Operand} {ps : Array Tmp} {assign body : Code} {n : Nat} {ds : List Deferred} {gf : FuncId} {cs : List Value} {mi m2 : List Item} {β : Type} {mo : β → List Item} {ψ : β → Prop} {α : Type} {E : List α → α → Prop} {S : List α → Prop} {enc : α → List Value} {σ : Type} (B : σ → List Item) (I : List α → σ → Prop) (J : Code → σ → Prop) (s0 : σ)
  (hg : evO l gx = some (.func (.func gf) #[] cs.toArray)) (hk : zek l gx = true) (hb : zb9 P gf = true) (hit : ql3 P gf cs mi mo ψ E S enc) (hps : ∀ x, ((enc x).length = ps.size)) (hpn : ∀ p ∈ ps.toList, p < n)
  (hst : ∀ s, ∀ it ∈ B s, it.Stable none') (hmi : ∀ it ∈ mi, it.Stable none') (h0 : I [] s0)
  (hround : ∀ ly rc k x s W, E k x → I k s → HT P assign (zxa P ly body (qiq ly rc B (fun _ => I (k ++ [x])) (fun c => J (c.getD .skip)) (pt ly (rc.at .ready none) :: B s) W)) ⟨n, [], some ly⟩ (zm7 (ps.toList.zip (enc x)) l)
   (Hp W (zap (pt ly (rc.at .ready none) :: B s)) (pt ly (rc.at .ready none) :: B s)))
  (hdone : ∀ D k s z, ψ z → S k → I k s → HX Q .normal ⟨n, zej D :: ds, none⟩ l (Hp w0 F (pt D (.deferred (some [])) :: (B s ++ (mo z ++ m2)))))
  (hstop : ∀ D c s z, ψ z → J c s → HT P c Q ⟨n, zej D :: ds, none⟩ l (Hp w0 F (pt D (.deferred (some [])) :: (B s ++ (mo z ++ m2))))) :
  HT P (.rangeFunc gx ps assign body) Q ⟨n, ds, none⟩ l (Hp w0 F (B s0 ++ (mi ++ m2))) := by
 unfold HT HX at *
 intro a w st hw
 refine wpIn_rangeFunc fun fn _ => ?_
 obtain ⟨rc, hrc⟩ : ∃ rc : Rc, rc = ⟨fn, a.tmps, ps, assign, body, w.heap.size⟩ := ⟨_, rfl⟩
 obtain ⟨ly, hly⟩ : ∃ ly, ly = w.heap.size + 1 := ⟨_, rfl⟩
 obtain ⟨W1, hW1⟩ : ∃ W1, (w.alloc (.deferred (some []))).alloc (rc.at .ready none) = W1 := ⟨_, rfl⟩
 have hH1 : Hp w0 F (pt ly (rc.at .ready none) :: pt w.heap.size (.deferred (some [])) :: (B s0 ++ (mi ++ m2))) W1 := by
  have := (hw.alloc (.deferred (some []))).alloc (rc.at .ready none)
  rw [hW1] at this
  simpa [hly] using this
 obtain ⟨Y, hY⟩ : ∃ Y : σ × Option Code → Item, ∀ s, Y s = zgu (pt ly (rc.at (if s.2.isNone then .ready else .done) s.2) :: B s.1) := ⟨_, fun _ => rfl⟩
 have hLs : ∀ s st pe, ∀ it ∈ pt ly (rc.at st pe) :: B s, it.Stable none' := fun s st pe it hm => (List.mem_cons.1 hm).elim (fun h => h ▸ zac _ _ _) (hst s it)
 have hmarks : ({ a with defers := [zej w.heap.size] ++ a.defers } : Act).defers = zej w.heap.size :: ds := by simp [st.defers]
 have st' : St ⟨n, zej w.heap.size :: ds, none⟩ l { a with defers := [zej w.heap.size] ++ a.defers } := ⟨st.size, hmarks, st.slot⟩
 have hH2 : Hp w0 F ((pt ly (rc.at .ready none) :: B s0) ++ (mi ++ (pt w.heap.size (.deferred (some [])) :: m2))) W1 := by
  refine hH1.perm ?_
  refine (List.Perm.cons _ ?_)
  refine ((List.perm_middle (l₁ := B s0 ++ mi) (l₂ := m2) (a := pt w.heap.size (.deferred (some [])))).symm.trans ?_ : (pt w.heap.size (.deferred (some [])) :: (B s0 ++ mi ++ m2)).Perm _) |> fun h => by simpa using h
  simp
 have hHere : ∀ it ∈ Y (s0, none) :: mi, za2 it W1 := by
  intro it hm
  rcases List.mem_cons.1 hm with rfl | hm
  ·rw [hY]
   refine zki (fun it hm => ?_) (List.pairwise_append.1 hH2.apart).1
   have hin := hH2.item it (List.mem_append_left _ hm)
   exact ⟨hin.1, hLs _ _ _ it hm, fun k hk => (hin.2.2 k hk).1⟩
  ·have hin := hH2.item it (List.mem_append_right _ (List.mem_append_left _ hm))
   exact ⟨hin.1, hmi it hm, fun k hk => (hin.2.2 k hk).1⟩
 have hAp : (Y (s0, none) :: mi).Pairwise Item.Apart := by
  have h1 := List.pairwise_append.1 hH2.apart
  refine List.pairwise_cons.2 ⟨fun y hy k hk hky => ?_, (List.pairwise_append.1 h1.2.1).1⟩
  rw [hY] at hk
  obtain ⟨x, hx, hkx⟩ := hk
  exact h1.2.2 x hx y (List.mem_append_left _ hy) k hkx hky
 refine ⟨ly, [zej w.heap.size], W1, { target := .fn (.func gf) cs.toArray, args := #[.func (.yield ly) #[] #[]] }, W1, gf, (.func (.yield ly) #[] #[] :: cs).toArray, W1, ?_, ?_, fun _ _ => trivial, ?_, zjw _, ?_⟩
 ·rw [← hW1, hrc, hly]; exact run_enterLoop_outer _ _ _ _ _
 ·have : a.eval gx = .func (.func gf) #[] cs.toArray := by rw [st.eval hk, zax hg]
  simp only [resolve, this]
  simp [go_sem]
 ·simp [invoke, zdo hb]
 ·refine (callsIn_wide (n := 0)).2 ((hit (σ × Option Code) ly Y (fun k s => s.2 = none ∧ I k s.1) (fun s => ∃ c, s.2 = some c ∧ J c s.1) (s0, none) W1 (fun s => by rw [hY]; exact zad _) ⟨rfl, h0⟩ ?_ hHere hAp).mono ?_)
  ·rintro k x ⟨s, pe⟩ hx ⟨rfl, hI⟩ W hW
   rw [hY] at hW
   have hrec : W.heap[ly]? = some (rc.at .ready none) := (hW.1.1 (pt ly (rc.at .ready none)) (by simp)).1
   refine ⟨fn, (ps.toList.zip (enc x)).foldl (fun t (p, v) => t.setIfInBounds p v) a.tmps, assign, body, ?_, ?_⟩
   ·have := run_yield (P := P) (args := (enc x).toArray) hrec (by simpa [hrc] using hps x)
    rw [this, hrc]
    exact congrArg (fun T => Result.ok (Next.round ly fn T assign body) W) (qdr ps (enc x) _)
   ·have s1 : St ⟨n, [], some ly⟩ l { tmps := a.tmps, defers := [] } := ⟨st.size, rfl, st.slot⟩
    have s2 := St.round (ps.toList.zip (enc x)) s1 (fun p hp => hpn _ (List.of_mem_zip (a := p.1) (b := p.2) hp).1)
    have h1 := hround ly rc k x s W hx hI _ W s2 (.begin hW.1.1 hW.1.2 _ fun k hk => hk)
    refine RoundIn.mono (roundIn_of_wpIn (n := 0) (F := Fence.wide) trivial h1) ?_
    rintro e w' ⟨pe, s', he, hJ, hi⟩
    refine ⟨pe.isNone, (s', pe), he, ?_, by rw [hY, hY]; exact hi⟩
    cases pe with
    | none => exact .inl ⟨rfl, rfl, hJ⟩
    | some c => exact .inr ⟨rfl, c, rfl, hJ⟩
  ·rintro e w3 ⟨⟨v, rfl⟩, ⟨s, pe⟩, z, hz, hs, hi⟩
   have h3 : Hp w0 F ((Y (s, pe) :: mo z) ++ (pt w.heap.size (.deferred (some [])) :: m2)) w3 := by
    refine Hp.call (m := (pt ly (rc.at .ready none) :: B s0) ++ mi) (by simpa using hH2) hi fun k _ ⟨it, hm, hk⟩ => ?_
    rcases List.mem_cons.1 hm with rfl | hm
    ·rw [hY] at hk
     obtain ⟨x, hx, hkx⟩ := hk
     exact ⟨x, List.mem_append_left _ hx, hkx⟩
    ·exact ⟨it, List.mem_append_right _ hm, hk⟩
   rw [hY] at h3
   have h4 := Hp.open1 (L := pt ly (rc.at (if pe.isNone then .ready else .done) pe) :: B s) (m := mo z ++ (pt w.heap.size (.deferred (some [])) :: m2)) h3
   have h5 := h4.put (m := B s ++ (mo z ++ (pt w.heap.size (.deferred (some [])) :: m2))) (rc.at .exhausted pe)
   have h6 : Hp w0 F (pt w.heap.size (.deferred (some [])) :: (B s ++ (mo z ++ m2))) (w3.putObj ly (rc.at .exhausted pe)) := by
    refine (h5.sub (List.sublist_cons_self _ _)).perm ?_
    rw [← List.append_assoc, ← List.append_assoc]
    exact List.perm_middle
   have hend := run_endLoop (P := P) (h4.get (b := ly) (o := rc.at (if pe.isNone then .ready else .done) pe) (by simp)) (by cases pe <;> simp)
   refine ⟨pe, _, hend, ?_⟩
   cases pe with
   | none =>
    obtain ⟨k, hk1, -, hk2⟩ := hs.resolve_right fun ⟨c, hc, _⟩ => by cases hc
    exact hdone _ k s z hz hk1 hk2 _ _ st' h6
   | some c => exact hstop _ c s z hz ((hs.resolve_left fun ⟨k, hk1, h, _⟩ => by cases h).elim fun c' h => by cases h.1; exact h.2) _ _ st' h6
def zp4 {σ β : Type} (w : World) (Fc : Nat → Prop) (Y : σ → Item) (mo : β → List Item) (ψ : β → Prop) (φ : σ → Prop) : Ending → World → Prop := fun e w' => (∃ v, e = .returned v) ∧ ∃ s z, ψ z ∧ φ s ∧ Its Fc w (Y s :: mo z) w'
theorem qg6 {gf : FuncId} {c : Code} (cs : List Value) (mi : List Item) {β : Type} (mo : β → List Item) (ψ : β → Prop) {α : Type} (E : List α → α → Prop) (S : List α → Prop) (enc : α → List Value) (hf : P.funcs[gf]? = some fn) (hb : fn.body = some c) (hn : Nat.ble (cs.length + 1) fn.ntmps = true)
  (h : ∀ (σ : Type) (ly : Nat) (Y : σ → Item) (I : List α → σ → Prop) (J : σ → Prop) (s0 : σ) (w : World), (∀ s, (Y s).Stable none') → I [] s0 →
   (∀ k x s, E k x → I k s → Yd P ly Y s (enc x).toArray fun b s' => (b = true ∧ I (k ++ [x]) s') ∨ (b = false ∧ J s')) →
   HT P c (zoj P fn (zp4 w (zap (Y s0 :: mi)) Y mo ψ fun s => (∃ k, S k ∧ I k s) ∨ J s)) ⟨fn.ntmps, [], none⟩ (zaa 0 (.func (.yield ly) #[] #[] :: cs)) (Hp w (zap (Y s0 :: mi)) (Y s0 :: mi))) : ql3 P gf cs mi mo ψ E S enc :=
 fun σ ly Y I J s0 w hst h0 hy hh ha => zv7 hf hb hn (Hp w (zap (Y s0 :: mi)) (Y s0 :: mi)) (.begin hh ha _ fun _ h => h) (h σ ly Y I J s0 w hst h0 hy)
theorem zw3 {n : Nat} {σ β : Type} {Y : σ → Item} {mo : β → List Item} {ψ : β → Prop} {φ : σ → Prop} (s : σ) (z : β) (hf : fn.results = #[]) (hψ : ψ z) (hφ : φ s) (hst : ∀ it ∈ Y s :: mo z, it.Stable none') (hs : (Y s :: mo z).Sublist m) : HX (bodyPost P fn (zp4 w0 F Y mo ψ φ)) .ret ⟨n, [], none⟩ l (Hp w0 F m) :=
 qj1 hf fun _ hw => ⟨⟨_, rfl⟩, s, z, hψ, hφ, hw.its hs hst⟩
theorem qh6 {n : Nat} {σ β : Type} {Y : σ → Item} {mo : β → List Item} {ψ : β → Prop} {φ : σ → Prop} (s : σ) (z : β) (hf : fn.results = #[]) (hψ : ψ z) (hφ : φ s) (hst : ∀ it ∈ Y s :: mo z, it.Stable none') (hs : (Y s :: mo z).Sublist m) : HX (bodyPost P fn (zp4 w0 F Y mo ψ φ)) .normal ⟨n, [], none⟩ l (Hp w0 F m) :=
 zze hf fun _ hw => ⟨⟨_, rfl⟩, s, z, hψ, hφ, hw.its hs hst⟩
def qjp {α : Type} (w0 : World) (F : Nat → Prop) (Nf : α → Fm) (L : α → zat) (φ : α → Prop) (M : α → List Item) (μ : α → Nat) (x : α) : Act → World → Prop := fun a w => ∃ y, μ y < μ x ∧ St (Nf y) (L y) a ∧ φ y ∧ Hp w0 F (M y) w
theorem qm8 {c : Code} {α : Type} {N : Fm} (Nf : α → Fm) (L : α → zat) (φ : α → Prop) (M : α → List Item) (μ : α → Nat) (x₀ : α) (hN : Nf x₀ = N) (hr : ∀ x, (Nf x).r = N.r) (h₀ : Has l (L x₀)) (hφ : φ x₀) (hI : ∀ w, Hp w0 F m w → Hp w0 F (M x₀) w)
  (round : ∀ x, φ x → HT P c (Exit.then (qjp w0 F Nf L φ M μ x) Q) (Nf x) (L x) (Hp w0 F (M x))) : HT P (.loop c) Q N l (Hp w0 F m) := by
 unfold HT at *
 intro a w s hw
 refine zk4 (fun x a w => St (Nf x) (L x) a ∧ φ x ∧ Hp w0 F (M x) w) μ (fun x a w ⟨sx, hx, hm⟩ => ?_) x₀ a w ⟨by rw [hN]; exact s.sub h₀.sub, hφ, hI w hw⟩
 have h1 := round x hx a w sx hm
 rw [hr x] at h1
 refine WP.mono (fun e a' w' q => ?_) h1
 cases e with
 | normal =>
  obtain ⟨y, h1, h2, h3, h4⟩ := q
  exact ⟨y, ⟨h2, h3, h4⟩, h1⟩
 | _ => exact q
theorem qg2 {α : Type} {N : Fm} {Nf : α → Fm} {L : α → zat} {φ : α → Prop} {M : α → List Item} {μ : α → Nat} {x : α} (y : α) (hN : Nf y = N) (hl : Has l (L y)) (hφ : φ y) (hI : ∀ w, Hp w0 F m w → Hp w0 F (M y) w) (hm : μ y < μ x) : HX (Exit.then (qjp w0 F Nf L φ M μ x) Q) .normal N l (Hp w0 F m) := by
 unfold HX
 exact fun a w s hw => ⟨y, hm, by rw [hN]; exact s.sub hl.sub, hφ, hI w hw⟩
end
end Go.Eng
