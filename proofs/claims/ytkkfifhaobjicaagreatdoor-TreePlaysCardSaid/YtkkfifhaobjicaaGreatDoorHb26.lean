/- A region that draws its order and asks for a round: an iterator's own. -/
/- The plain law of sheets and heads: what is put is taken; the pieces of a text. -/
/- package sheet: Cut, the pieces of a text. -/
/- The plain law of the disk: several writes, then a flush; what a dead disk has. -/
/- package wal: Commit. -/
/- package wal: Commit. -/
import Derived.Test.YtkkfifhaobjicaaGreatDoorHb25
import Derived.Test.YtkkfifhaobjicaaGreatDoorHb15
import Derived.Test.YtkkfifhaobjicaaGreatDoorHb24
namespace Go.Eng
open Go.RowKit
section
variable {P : Program} {Q : Exit → Act → World → Prop} {l : zat} {w0 : World} {F : Nat → Prop} {m : List Item} {ops : Array Oper} {S : World → Prop}
theorem zov {i : Nat} {o : Oper} {v : Value} {a : Act} (hi : ops[i]? = some o) (hy : YieldsIf P ops S o v a) {K : Act → World → Prop} {w : World} (hS : S w) (h : K (a.put o.dst v) w) : wpOpIn (fw none) 0 P ops Q i K a w := by
 unfold Go.wpOpIn
 simp only [hi]
 rcases hy with ⟨hw, hv⟩ | ⟨hw, rfl⟩
 ·simp only [hw, if_true, Oper.wpIn]
  refine ⟨fun _ _ => trivial, ?_⟩
  rw [show (fw none).round = none from rfl, Oper.semAt_none, hv w hS]
  exact h
 ·simp only [hw, Bool.false_eq_true, if_false]
  exact ⟨fun _ _ => trivial, h⟩
theorem zu1 {j : Nat} {oi oj : Oper} {v : Value} (hj : ops[j]? = some oj) (hap : oi.apart ops oj = true)
  (hsi : ∀ cs b, oi.op ≠ .select cs b) (hsj : ∀ cs b, oj.op ≠ .select cs b)
  (hQ : ∀ c a w, ¬ Q (.panic c) a w) {K : Act → World → Prop} {a : Act} {w : World}
  (hy : YieldsIf P ops S oi v a) (h : wpOpIn (fw none) 0 P ops Q j K (a.put oi.dst v) w) :
  wpOpIn (fw none) 0 P ops Q j (fun a' w' => YieldsIf P ops S oi v a' ∧ K (a'.put oi.dst v) w') a w := by
 obtain ⟨h1, h2, h3⟩ := Oper.apart_spec hap
 have keep : ∀ (a : Act), YieldsIf P ops S oi v a → ∀ u, YieldsIf P ops S oi v (a.put oj.dst u) := fun a hy u =>
  hy.of_same (execOp_put oi hsi a oj.dst u h3) (wanted_put oi a oj.dst u h3)
 have keepD : ∀ d, YieldsIf P ops S oi v { a with defers := d :: a.defers } := fun d => hy.of_same rfl rfl
 unfold wpOpIn at *
 simp only [hj] at *
 rw [wanted_put oj a oi.dst v h1] at h
 split
 ·rename_i hw
  simp only [hw, if_true] at h
  unfold Oper.wpIn at *
  refine ⟨fun _ _ => trivial, ?_⟩
  have h := h.2
  rw [show (fw none).round = none from rfl, Oper.semAt_none, execOp_put oj hsj a oi.dst v h1] at h
  rw [show (fw none).round = none from rfl, Oper.semAt_none]
  generalize (execOp a.eval oj).run P w = r at *
  cases r with
  | ok x w' =>
   cases x <;> simp only [Oper.uponIn] at h ⊢
   case value u => exact ⟨keep a hy u, by rw [← Act.put_comm a v u h2]; exact h⟩
   case skip => exact ⟨keep a hy _, by rw [← Act.put_comm a v undef h2]; exact h⟩
   case defer d =>
    refine ⟨keep _ (keepD d) _, ?_⟩
    rw [← Act.put_comm _ v undef h2, ← Act.put_defers]
    exact h
   case enter f args =>
    refine ⟨h.1, CallsIn.mono h.2 fun e w'' he => ?_⟩
    cases e with
    | returned u => exact ⟨keep a hy u, by rw [← Act.put_comm a v u h2]; exact he⟩
    | panicked c => exact absurd he (hQ _ _ _)
    | outgrown => exact he
   case row row args => exact ⟨h.1, RowsIn.mono h.2 fun u w'' he => ⟨keep a hy u, by rw [← Act.put_comm a v u h2]; exact he⟩⟩
   case round l f tmps assign body =>
    refine ⟨h.1, RoundIn.mono h.2 fun e w'' he => ?_⟩
    cases e with
    | returned u => exact ⟨keep a hy u, by rw [← Act.put_comm a v u h2]; exact he⟩
    | panicked c => exact absurd he (hQ _ _ _)
    | outgrown => exact he
  | halt x w' =>
   cases x <;> simp only [Oper.uponIn] at h ⊢
   case panic u => exact absurd h (hQ _ _ _)
 ·rename_i hw
  simp only [hw] at h
  exact ⟨fun _ _ => trivial, keep a hy _, by rw [← Act.put_comm a v undef h2]; exact h.2⟩
def zv4 (P : Program) (ops : Array Oper) (Q : Exit → Act → World → Prop) (S : World → Prop) : Nat → Array Bool → Act → World → Prop
 | 0, listed, a, w => Region.ready .any ops listed = [] ∧ Q .normal a w
 | n + 1, listed, a, w => (Region.ready .any ops listed = [] → Q .normal a w) ∧
  ∀ i ∈ Region.ready .any ops listed, wpOpIn (fw none) 0 P ops Q i (fun a' w' => S w' ∧ zv4 P ops Q S n (listed.setIfInBounds i true) a' w') a w
theorem zm6 : ∀ (n : Nat) (listed : Array Bool) (a : Act) (w : World), zv4 P ops Q S n listed a w → wpAnyIn (fw none) 0 P .any ops Q n listed a w
 | 0, _, _, _, h => h
 | n + 1, _, _, _, h => ⟨h.1, fun i hi => wpOpIn_mono (fun a' w' h' => zm6 n _ a' w' h'.2) (h.2 i hi)⟩
theorem zu2 {i : Nat} {oi : Oper} {v : Value} (hi : ops[i]? = some oi) (hsel : ∀ (j : Nat) (o : Oper) cs b, ops[j]? = some o → o.op ≠ .select cs b)
  (hQ : ∀ c a w, ¬ Q (.panic c) a w) :
  ∀ (fuel : Nat) (listed : Array Bool) (a : Act) (w : World),
   (∀ j oj, ops[j]? = some oj → j ≠ i → listed.getD j true = false → (∀ e ∈ oj.after, Region.binds .any e = true → e.on ≠ i) → oi.apart ops oj = true) →
   i ∈ Region.ready .any ops listed → YieldsIf P ops S oi v a → S w →
   zv4 P ops Q S fuel (listed.setIfInBounds i true) (a.put oi.dst v) w → zv4 P ops Q S (fuel + 1) listed a w := by
 intro fuel
 induction fuel with
 | zero =>
  intro listed a w _ hr hy hS H
  refine ⟨fun h => (by rw [h] at hr; cases hr), fun j hj => ?_⟩
  by_cases hji : j = i
  ·subst hji; exact zov hi hy hS ⟨hS, H⟩
  ·have := ready_mono hj hji
   rw [H.1] at this
   cases this
 | succ fuel ih =>
  intro listed a w hfree hr hy hS H
  refine ⟨fun h => (by rw [h] at hr; cases hr), fun j hj => ?_⟩
  by_cases hji : j = i
  ·subst hji; exact zov hi hy hS ⟨hS, H⟩
  ·have h1 := H.2 j (ready_mono hj hji)
   obtain ⟨hjun, oj, hoj, hall⟩ := mem_ready.1 hj
   have hnot : ∀ e ∈ oj.after, Region.binds .any e = true → e.on ≠ i := fun e he hb heq => by
    have h2 := hall e he hb
    rw [heq, getD_both (mem_ready.1 hr).1] at h2
    cases h2
   have h2 := zu1 hoj (hfree j oj hoj hji hjun hnot) (fun cs b => hsel i oi cs b hi) (fun cs b => hsel j oj cs b hoj) hQ hy h1
   have hfree' : ∀ k ok, ops[k]? = some ok → k ≠ i → (listed.setIfInBounds j true).getD k true = false →
     (∀ e ∈ ok.after, Region.binds .any e = true → e.on ≠ i) → oi.apart ops ok = true := fun k ok hk hki hun hno => by
    refine hfree k ok hk hki ?_ hno
    by_cases hjk : j = k
    ·subst hjk; exact hjun
    ·rw [getD_set_ne true hjk] at hun; exact hun
   refine wpOpIn_mono (fun a' w' h3 => ⟨h3.2.1, ih (listed.setIfInBounds j true) a' w' hfree' (ready_mono hr (Ne.symm hji)) h3.1 h3.2.1 ?_⟩) h2
   rw [Array.setIfInBounds_comm _ _ hji]
   exact h3.2.2
def HY (P : Program) (ops : Array Oper) (Q : Exit → Act → World → Prop) (S : World → Prop) (N : Fm) (n : Nat) (listed : Array Bool) (l : zat) (H : World → Prop) : Prop :=
 ∀ a w, St N l a → H w → zv4 P ops (znl Q) S n listed a w
theorem qlx {id n : Nat} {ds : List Deferred} {r : List Oper} {m' : List Item} (is : List Nat) (hd : zqp is = true) (hp : zkm m is = some m') (hm : zld P r = true)
  (h : HY P r.toArray Q (Hp w0 F m') ⟨n, ds, none⟩ r.length (Array.replicate r.length false) l (Hp w0 F m)) : HT P (.region id r.toArray true) Q ⟨n, ds, none⟩ l (Hp w0 F m) := by
 unfold HT HY at *
 intro a w s hw
 simp only [zld, Bool.and_eq_true] at hm
 refine wpIn_mono (wpIn_region_any (Q := znl Q) hm.1 (zm6 (S := Hp w0 F m') _ _ _ _ ?_)) (fun _ _ _ h => zsk h)
 have := h a w.drew s hw.drew
 simpa using this
def qm6 (ops : Array Oper) (listed : Array Bool) (i : Nat) : Bool := Region.noSelect ops && (Region.free .any ops listed i && (Region.ready .any ops listed).contains i)
theorem zns {i n d : Nat} {N : Fm} {listed : Array Bool} {op : Op} {ty : TypeId} {pos : String} {after : Array Edge} {v : Value} {H : World → Prop}
  (hi : nth ops.toList i = some ⟨some d, op, ty, pos, after, none⟩) (hb : qm6 ops listed i = true) (hS : ∀ w, H w → S w) (hok : zfj N l op d = true) (hv : OV P op ty l S v)
  (k : HY P ops Q S N n (listed.setIfInBounds i true) ((d, v) :: l) H) : HY P ops Q S N (n + 1) listed l H := by
 obtain ⟨hs, hN, hk⟩ := zeq hok
 simp only [qm6, Bool.and_eq_true] at hb
 obtain ⟨h3, h4, h5⟩ := hb
 unfold HY at *
 unfold OV at hv
 intro a w s hw
 exact zu2 (zed hi) (Region.noSelect_spec h3) (fun c a w h => h.elim) n listed a w (Region.free_spec (zed hi) h4) (by simpa using h5) (.inl ⟨rfl, fun w hw => by rw [s.exec _ hs hk]; exact hv _ _ _ w hw⟩) (hS w hw) (k _ w (s.put hN v) hw)
theorem qqe {N : Fm} {listed : Array Bool} {H : World → Prop} (hr : Region.ready .any ops listed = []) (k : HX Q .normal N l H) : HY P ops Q S N 0 listed l H := by
 unfold HY HX at *
 exact fun a w s hw => ⟨hr, k a w s hw⟩
theorem qk1 {i n d nn ly : Nat} {ds : List Deferred} {listed : Array Bool} {x : Operand} {xs : List Operand} {vs : List Value} {tys : Array TypeId} {ty : TypeId} {pos : String} {after : Array Edge} {σ : Type} {Y : σ → Item} {s : σ} {R : Bool → σ → Prop}
  (hr : Region.ready .any ops listed = [i]) (hi : nth ops.toList i = some ⟨some d, .call ⟨.value x, xs.toArray, tys⟩, ty, pos, after, none⟩) (hok : zfj ⟨nn, ds, none⟩ l (.call ⟨.value x, xs.toArray, tys⟩) d = true) (hf : evO l x = some (.func (.yield ly) #[] #[])) (hx : evs l xs = some vs) (hst : (Y s).Stable none') (hy : Yd P ly Y s vs.toArray R)
  (hS : ∀ s' w, Hp w0 F (Y s' :: m) w → S w)
  (k : ∀ b s', R b s' → HY P ops Q S ⟨nn, ds, none⟩ n (listed.setIfInBounds i true) ((d, .bool b) :: l) (Hp w0 F (Y s' :: m))) : HY P ops Q S ⟨nn, ds, none⟩ (n + 1) listed l (Hp w0 F (Y s :: m)) := by
 unfold HY at *
 obtain ⟨hs, hN, hk⟩ := zeq hok
 intro a w st hw
 refine ⟨fun h => (by rw [h] at hr; cases hr), fun j hj => ?_⟩
 obtain rfl : j = i := by rw [hr] at hj; simpa using hj
 unfold wpOpIn
 simp only [zed hi]
 rw [if_pos (by simp [Region.wanted])]
 refine ⟨fun _ _ => trivial, ?_⟩
 have hin := hw.item (Y s) (by simp)
 obtain ⟨fn, tmps, asg, body, hrr, hround⟩ := hy w ⟨hin.1, hst, fun k hk => (hin.2.2 k hk).1⟩
 rw [Oper.semAt_eq _ _ _ (zly (zk1 hok)), st.exec _ hs hk, zoq hf hx hrr, Oper.uponIn_round]
 have h1 : RoundIn (fw none) 0 P ly fn tmps asg body w _ := hround
 refine ⟨zjw _, h1.mono fun e w' ⟨b, s', he, hR, hi⟩ => ?_⟩
 subst he
 have hw' : Hp w0 F ([Y s'] ++ m) w' := Hp.call (m := [Y s]) hw hi (fun k _ hk => ⟨Y s, by simp, hk⟩)
 exact ⟨hS s' w' hw', k b s' hR _ _ (st.put hN _) hw'⟩
end
end Go.Eng
namespace Go.Proofs.YtkkfifhaobjicaaGreatDoor
set_option maxRecDepth 100000
theorem qn6 {s : Sht} (hq : s.seq < 18446744073709551616) (ht : s.text.length ≤ 497) : ∃ r, qjt (zno s) = (s, (r, false)) := by
 unfold zno
 generalize beN 4 (qi6 (zty (qgz s))).toNat = c
 obtain ⟨seq, last, text⟩ := s
 unfold qgz
 simp only at hq ht ⊢
 simp only [List.append_assoc]
 refine ⟨List.replicate (497 - text.length) 0 ++ c, ?_⟩
 unfold qjt
 rw [zh9 (show seq < 256 ^ 8 from hq)]
 simp only
 rw [zh9 (show (if last then 2 else 1) < 256 ^ 1 by cases last <;> decide)]
 simp only
 rw [zh9 (show text.length < 256 ^ 2 by omega)]
 simp only
 rw [zp0]
 simp only
 cases last <;> simp
theorem qjm {s : Sht} (hq : s.seq < 18446744073709551616) (ht : s.text.length ≤ 497) : zid (zno s) = true ∧ zf6 (zno s) = s := by
 obtain ⟨r, hr⟩ := qn6 hq ht
 have h1 : zid (zno s) = true := by
  unfold zid
  rw [hr]
  simp [ht]
 refine ⟨h1, ?_⟩
 unfold zf6
 rw [h1, hr]
 rfl
theorem qdx (a b : Bys) (h : a.length < 256) : ze8 (beN 1 a.length ++ (a ++ b), false) = (a, (b, false)) := by
 obtain ⟨x, hx⟩ : ∃ x : UInt8, beN 1 a.length = [x] := List.length_eq_one_iff.1 (zao 1 _)
 have hv : beV (beN 1 a.length) = a.length := zyi 1 _ (by simpa using h)
 rw [hx] at hv ⊢
 have hxv : x.toNat = a.length := by simpa [beV] using hv
 unfold ze8
 simp [hxv]
theorem qqm {h : Hd} (ok : h.Ok) : ∃ r, hdR (hdP h) = (h, (r, false)) := by
 obtain ⟨hg, hf, hs, hn⟩ := ok
 unfold hdP
 generalize beN 4 (zty (hdH h)).toNat = c
 obtain ⟨gen, first, secs, note⟩ := h
 unfold hdH
 simp only at hg hf hs hn ⊢
 simp only [List.append_assoc]
 refine ⟨List.replicate (489 - note.length) 0 ++ c, ?_⟩
 unfold hdR
 rw [zh9 (show gen < 256 ^ 8 from hg)]
 simp only
 rw [zh9 (show first < 256 ^ 8 from hf)]
 simp only
 rw [zh9 (show secs < 256 ^ 2 from hs)]
 simp only
 rw [qdx note _ (by omega)]
theorem qnz {h : Hd} (ok : h.Ok) : zqm (hdP h) = true ∧ hdT (hdP h) = h := by
 obtain ⟨r, hr⟩ := qqm ok
 have h1 : hdF (hdP h) = true := by
  unfold hdF
  rw [hr]
  simp [ok.note]
 refine ⟨?_, ?_⟩
 ·unfold zqm
  rw [h1, hr]
  simp
 ·unfold hdT
  rw [h1, hr]
  rfl
def pcS (q : Nat) (t : Bys) (j : Nat) : Sht := ⟨q + j, decide (j + 1 = zbb t.length), (t.drop (497 * j)).take 497⟩
theorem zth (q : Nat) (t : Bys) (j : Nat) : (pcS q t j).text.length ≤ 497 := by
 show ((t.drop (497 * j)).take 497).length ≤ 497
 rw [List.length_take]; omega
theorem zo7 (n : Nat) : 1 ≤ zbb n := by unfold zbb; omega
theorem qbo {n j : Nat} (h : j + 1 = zbb n) : n ≤ 497 * (j + 1) := by unfold zbb at h; omega
theorem qoj {q : Nat} {t : Bys} {j : Nat} (ht : t ≠ []) (hj : j < zbb t.length) : (pcS q t j).text ≠ [] := by
 have hl : 0 < t.length := List.length_pos_iff.2 ht
 intro h
 have h1 : ((t.drop (497 * j)).take 497).length = 0 := by rw [show (t.drop (497 * j)).take 497 = [] from h]; rfl
 rw [List.length_take, List.length_drop] at h1
 unfold zbb at hj
 omega
theorem zmu (t : Bys) (j : Nat) : t.take (497 * j) ++ (t.drop (497 * j)).take 497 = t.take (497 * (j + 1)) := by
 rw [Nat.mul_add, Nat.mul_one, List.take_add]
theorem zpn {q : Nat} (h : q + 1 < 18446744073709551616) : nxt q = q + 1 := Nat.mod_eq_of_lt h
theorem zuh {B : zeg} {q : Nat} {t : Bys} (hq : q + zbb t.length < 18446744073709551616) (h : ∀ j, j < zbb t.length → B.lookup (q + j) = some (pcS q t j)) (f : Nat) (acc : List Bys) :
  ∀ d j, j + d + 1 = zbb t.length → zcv B (f + (d + 1)) (q + j) (t.take (497 * j)) acc = zcv B f (q + zbb t.length) [] (acc ++ [t])
 | 0, j, hd => by
  rw [Nat.zero_add, zcv, h j (by omega)]
  simp only
  have e : (pcS q t j).last = true := decide_eq_true (by omega)
  have e2 : nxt (q + j) = q + zbb t.length := by rw [zpn (by omega)]; omega
  have e3 : t.take (497 * j) ++ (pcS q t j).text = t := by
   show t.take (497 * j) ++ (t.drop (497 * j)).take 497 = t
   rw [zmu]
   exact List.take_of_length_le (qbo (by omega))
  rw [e, if_pos rfl, e2, e3]
 | d + 1, j, hd => by
  rw [show f + (d + 1 + 1) = (f + (d + 1)) + 1 by omega, zcv, h j (by omega)]
  simp only
  have e : (pcS q t j).last = false := decide_eq_false (by omega)
  have e2 : nxt (q + j) = q + (j + 1) := by rw [zpn (by omega)]; omega
  have e3 : t.take (497 * j) ++ (pcS q t j).text = t.take (497 * (j + 1)) := zmu t j
  rw [e, e2, e3]
  exact zuh hq h f acc d (j + 1) (by omega)
theorem qe1 {B : zeg} {q : Nat} {t : Bys} (hq : q + zbb t.length < 18446744073709551616) (h : ∀ j, j < zbb t.length → B.lookup (q + j) = some (pcS q t j)) (f : Nat) (acc : List Bys) :
  zcv B (f + zbb t.length) q [] acc = zcv B f (q + zbb t.length) [] (acc ++ [t]) := by
 have hp := zo7 t.length
 have := zuh hq h f acc (zbb t.length - 1) 0 (by omega)
 rw [show zbb t.length - 1 + 1 = zbb t.length by omega] at this
 simpa using this
theorem zrs {B : zeg} {q k : Nat} {t : Bys} (hq : q + zbb t.length < 18446744073709551616) (hk : k < zbb t.length) (h : ∀ j, j < k → B.lookup (q + j) = some (pcS q t j)) (hn : B.lookup (q + k) = none) (acc : List Bys) :
  ∀ f j, j ≤ k → zcv B f (q + j) (t.take (497 * j)) acc = acc
 | 0, _, _ => rfl
 | f + 1, j, hj => by
  rw [zcv]
  rcases Nat.lt_or_eq_of_le hj with hj | rfl
  ·rw [h j hj]
   simp only
   have e : (pcS q t j).last = false := decide_eq_false (by omega)
   have e2 : nxt (q + j) = q + (j + 1) := by rw [zpn (by omega)]; omega
   have e3 : t.take (497 * j) ++ (pcS q t j).text = t.take (497 * (j + 1)) := zmu t j
   rw [e, e2, e3]
   exact zrs hq hk h hn acc f (j + 1) hj
  ·rw [hn]
def zkk : Nat → List Bys → Nat
 | q, [] => q
 | q, t :: ts => zkk (q + zbb t.length) ts
theorem zph : ∀ (ts : List Bys) (q : Nat), q ≤ zkk q ts
 | [], _ => Nat.le_refl _
 | t :: ts, q => Nat.le_trans (Nat.le_add_right _ _) (zph ts _)
theorem zsz : ∀ (ts : List Bys) (q : Nat) (t : Bys), zkk q (ts ++ [t]) = zkk q ts + zbb t.length
 | [], _, _ => rfl
 | _ :: ts, q, t => zsz ts _ t
theorem zy4 : ∀ (ts : List Bys) (q : Nat), q + ts.length ≤ zkk q ts
 | [], q => Nat.le_refl _
 | t :: ts, q => by
  have h1 := zy4 ts (q + zbb t.length)
  have h2 := zo7 t.length
  rw [zkk, List.length_cons]
  omega
def zwl (B : zeg) : Nat → List Bys → Prop
 | _, [] => True
 | q, t :: ts => (∀ j, j < zbb t.length → B.lookup (q + j) = some (pcS q t j)) ∧ zwl B (q + zbb t.length) ts
theorem zwl.all {B : zeg} : ∀ {ts : List Bys} {q : Nat}, zwl B q ts → ∀ k, q ≤ k → k < zkk q ts → ∃ s, B.lookup k = some s
 | [], _, _, k, h1, h2 => absurd h2 (by rw [zkk]; omega)
 | t :: ts, q, h, k, h1, h2 => by
  by_cases hk : k < q + zbb t.length
  ·have := h.1 (k - q) (by omega)
   rw [show q + (k - q) = k by omega] at this
   exact ⟨_, this⟩
  ·exact zwl.all h.2 k (by omega) h2
theorem zwl.app {B : zeg} : ∀ {ts : List Bys} {q : Nat} {t : Bys}, zwl B q ts → (∀ j, j < zbb t.length → B.lookup (zkk q ts + j) = some (pcS (zkk q ts) t j)) → zwl B q (ts ++ [t])
 | [], _, _, _, h2 => ⟨h2, trivial⟩
 | _ :: _, _, _, h, h2 => ⟨h.1, zwl.app h.2 h2⟩
theorem zuc {B : zeg} (f : Nat) : ∀ (ts : List Bys) (q : Nat) (acc : List Bys), zkk q ts < 18446744073709551616 → zwl B q ts → zcv B (f + (zkk q ts - q)) q [] acc = zcv B f (zkk q ts) [] (acc ++ ts)
 | [], q, acc, _, _ => by simp [zkk]
 | t :: ts, q, acc, hq, h => by
  have h1 := zph ts (q + zbb t.length)
  rw [zkk] at hq
  have e : f + (zkk q (t :: ts) - q) = (f + (zkk (q + zbb t.length) ts - (q + zbb t.length))) + zbb t.length := by rw [zkk]; omega
  rw [e, qe1 (by omega) h.1, zuc f ts _ _ hq h.2, zkk]
  simp
theorem zul : ∀ (m : Nat) (B : zeg) (q : Nat), (∀ k, q ≤ k → k < q + m → ∃ s, B.lookup k = some s) → m ≤ B.length
 | 0, _, _, _ => Nat.zero_le _
 | m + 1, B, q, h => by
  obtain ⟨s, hs⟩ := h (q + m) (by omega) (by omega)
  have hm := zho hs
  have h1 : (B.filter fun p => decide (p.1 ≠ q + m)).length < B.length := by
   refine List.length_filter_lt_length_iff_exists.2 ⟨_, hm, by simp⟩
  have h2 := zul m (B.filter fun p => decide (p.1 ≠ q + m)) q fun k hk1 hk2 => by
   obtain ⟨s', hs'⟩ := h k hk1 (by omega)
   refine ⟨s', ?_⟩
   have : ∀ (L : zeg), (L.filter fun p => decide (p.1 ≠ q + m)).lookup k = L.lookup k := by
    intro L
    induction L with
    | nil => rfl
    | cons p L ih =>
     by_cases hp : p.1 = q + m
     ·rw [List.filter_cons_of_neg (by simp [hp]), ih, List.lookup_cons, show (k == p.1) = false by simp; omega]
     ·rw [List.filter_cons_of_pos (by simp [hp]), List.lookup_cons, List.lookup_cons, ih]
   rw [this, hs']
  omega
theorem zlw {B : zeg} {ts : List Bys} {q : Nat} (hq : zkk q ts < 18446744073709551616) (h : zwl B q ts) (hstop : ∀ f acc, zcv B f (zkk q ts) [] acc = acc) : zcv B (B.length + 1) q [] [] = ts := by
 have h1 := zph ts q
 have h2 := zul (zkk q ts - q) B q fun k hk1 hk2 => h.all k hk1 (by omega)
 obtain ⟨f, hf⟩ : ∃ f, B.length + 1 = f + (zkk q ts - q) := ⟨B.length + 1 - (zkk q ts - q), by omega⟩
 rw [hf, zuc f ts q [] hq h, hstop]
 rfl
theorem zub {B : zeg} {q : Nat} (h : B.lookup q = none) (f : Nat) (acc : List Bys) : zcv B f q [] acc = acc := by
 cases f with
 | zero => rfl
 | succ f => rw [zcv, h]
theorem qdz {B : zeg} {q k : Nat} {t : Bys} (hq : q + zbb t.length < 18446744073709551616) (hk : k < zbb t.length) (h : ∀ j, j < k → B.lookup (q + j) = some (pcS q t j)) (hn : B.lookup (q + k) = none) (f : Nat) (acc : List Bys) : zcv B f q [] acc = acc := by
 have := zrs hq hk h hn acc f 0 (Nat.zero_le _)
 simpa using this
end Go.Proofs.YtkkfifhaobjicaaGreatDoor
namespace Go.Eng
open Go.RowKit
theorem zxk {w0 w : World} {F : Nat → Prop} {m : List Item} (e : TypeId) (sz : Nat) (h : Hp w0 F m w) : Hp w0 F (own e sz none 0 [] :: m) w := Hp.call0 (L := [own e sz none 0 []]) h ⟨.refl _ _, fun it hm => by
   obtain rfl : it = own e sz none 0 [] := by simpa using hm
   exact ⟨⟨(Nat.zero_mul sz).symm, rfl⟩, zab _ _ _ _ _ _, fun k ⟨c, h⟩ => by cases h⟩, .cons (fun _ h => by cases h) .nil⟩
theorem zr3 {P : Program} {c : Code} {Q : Exit → Act → World → Prop} {N : Fm} {l : zat} {w0 : World} {F : Nat → Prop} {m : List Item} (e : TypeId) (sz : Nat) (h : HT P c Q N l (Hp w0 F (own e sz none 0 [] :: m))) : HT P c Q N l (Hp w0 F m) := by
 unfold HT at *
 exact fun a w s hw => h a w s (zxk e sz hw)
theorem zq7 (o : Option (Nat × Nat)) (n : Nat) : (slV o n).cells = #[slV o n] := by cases o <;> rfl
theorem zyz (o : Option (Nat × Nat)) (n : Nat) : (slV o n).oneCell' = true := by cases o <;> rfl
end Go.Eng
namespace Go.Proofs.YtkkfifhaobjicaaGreatDoor
open Go.RowKit Go.Eng
set_option maxRecDepth 100000
def qp7 (q : Nat) (t : Bys) : List Sht := (List.range (zbb t.length)).map (pcS q t)
end Go.Proofs.YtkkfifhaobjicaaGreatDoor
namespace Go.Proofs.YtkkfifhaobjicaaGreatDoor
set_option maxRecDepth 100000
theorem qks {α : Type} {M : List α → Prop} (h0 : M []) (hs : ∀ l x, M l → M (l ++ [x])) (l : List α) : M l := by
 rw [← List.reverse_reverse l]
 generalize l.reverse = r
 induction r with
 | nil => exact h0
 | cons x r ih => rw [List.reverse_cons]; exact hs _ _ ih
def zb6 (D : Dsk) : List (Nat × Bys) → Nat × Dsk
 | [] => (0, D)
 | p :: l => if (zb1 D p.1 p.2).1 = 0 then zb6 (zb1 D p.1 p.2).2 l else zb1 D p.1 p.2
def zcs (D : Dsk) (ws : List (Nat × Bys)) : Nat × Dsk := if (zb6 D ws).1 = 0 then zb8 (zb6 D ws).2 else zb6 D ws
theorem zgq (D : Dsk) (a : Nat) (h : Hd) : zbx D a h = zcs D [(a, hdP h)] := by
 unfold zbx zcs zb6 zb6
 split
 ·rw [if_pos rfl]
 ·rfl
def zd8 (on : List Bys) : List (Nat × Bys) → List Bys
 | [] => on
 | p :: l => zd8 (on.set p.1 p.2) l
theorem zgf : ∀ (ws : List (Nat × Bys)) (on : List Bys), (zd8 on ws).length = on.length
 | [], _ => rfl
 | p :: l, on => by rw [zd8, zgf l, List.length_set]
theorem zmt : ∀ (ws : List (Nat × Bys)) (on : List Bys) (p : Nat × Bys), zd8 on (ws ++ [p]) = (zd8 on ws).set p.1 p.2
 | [], _, _ => rfl
 | _ :: l, on, p => zmt l _ p
def Mix (on : List Bys) (ws : List (Nat × Bys)) (on' : List Bys) : Prop := on'.length = on.length ∧ ∀ i, i < on.length → on'[i]? = on[i]? ∨ ∃ s, (i, s) ∈ ws ∧ on'[i]? = some s
theorem Mix.refl (on : List Bys) (ws : List (Nat × Bys)) : Mix on ws on := ⟨rfl, fun _ _ => .inl rfl⟩
theorem Mix.more {on on' : List Bys} {ws ws' : List (Nat × Bys)} (h : Mix on ws on') (hs : ∀ p ∈ ws, p ∈ ws') : Mix on ws' on' := ⟨h.1, fun i hi => (h.2 i hi).imp id fun ⟨s, h1, h2⟩ => ⟨s, hs _ h1, h2⟩⟩
theorem Mix.set {on on' : List Bys} {ws : List (Nat × Bys)} (h : Mix on ws on') {p : Nat × Bys} (hp : p ∈ ws) : Mix on ws (on'.set p.1 p.2) := by
 refine ⟨by rw [List.length_set, h.1], fun i hi => ?_⟩
 by_cases e : p.1 = i
 ·refine .inr ⟨p.2, by rw [← e]; exact hp, ?_⟩
  rw [← e, List.getElem?_set_self (by rw [h.1, e]; exact hi)]
 ·rw [List.getElem?_set_ne e]
  exact h.2 i hi
theorem Mix.all (on : List Bys) : ∀ ws : List (Nat × Bys), Mix on ws (zd8 on ws) := fun ws => by
 induction ws using qks with
 | h0 => exact .refl _ _
 | hs l p ih =>
  rw [zmt]
  exact (ih.more fun q hq => List.mem_append_left _ hq).set (List.mem_append_right _ (.head _))
def swp (ws : List (Nat × Bys)) : List (Bys × Nat) := ws.map fun p => (p.2, p.1)
theorem zt5 (on : List Bys) (ws : List (Nat × Bys)) (f : Nat → Bool) : ∀ k, k ≤ ws.length → Mix on ws (zif on (swp ws) f k)
 | 0, _ => .refl _ _
 | k + 1, hk => by
  have ih := zt5 on ws f k (by omega)
  rw [zif]
  split
  ·have e : (swp ws).getD k ([], 0) = ((ws[k]'hk).2, (ws[k]'hk).1) := by simp [swp, List.getD, List.getElem?_eq_getElem hk]
   rw [e]
   exact ih.set (List.getElem_mem hk)
  ·exact ih
theorem zte (on : List Bys) (ws : List (Nat × Bys)) : ∀ k, k ≤ ws.length → zif on (swp ws) (fun _ => true) k = zd8 on (ws.take k)
 | 0, _ => rfl
 | k + 1, hk => by
  rw [zif, if_pos rfl, zte on ws k (by omega), List.take_succ_eq_append_getElem hk, zmt]
  simp [swp, List.getD, List.getElem?_eq_getElem hk]
structure Dsk.Rest (D : Dsk) : Prop where
 live : D.dead = false
 wait : D.wait = []
def qgy (D : Dsk) (ws : List (Nat × Bys)) : Prop := ∀ p ∈ ws, p.1 < D.on.length ∧ p.2.length = 512
theorem zo0 {D : Dsk} {pre : List (Nat × Bys)} : ∀ {ws : List (Nat × Bys)} {D1 : Dsk}, qgy D ws → D1.dead = false → D1.on = D.on → D1.wait = swp pre → D1.keep = D.keep → (D.left = none → D1.left = none) →
  ((zb6 D1 ws).1 = 0 ∧ (zb6 D1 ws).2.dead = false ∧ (zb6 D1 ws).2.on = D.on ∧ (zb6 D1 ws).2.wait = swp (pre ++ ws) ∧ (zb6 D1 ws).2.keep = D.keep ∧ (D.left = none → (zb6 D1 ws).2.left = none)) ∨
  (D.left ≠ none ∧ (zb6 D1 ws).1 = 4 ∧ (zb6 D1 ws).2.dead = true ∧ (zb6 D1 ws).2.wait = [] ∧ (zb6 D1 ws).2.left = none ∧ (zb6 D1 ws).2.keep = [] ∧ Mix D.on (pre ++ ws) (zb6 D1 ws).2.on)
 | [], D1, _, h1, h2, h3, h4, h5 => .inl ⟨rfl, h1, h2, by rw [List.append_nil]; exact h3, h4, h5⟩
 | p :: l, D1, hw, h1, h2, h3, h4, h5 => by
  obtain ⟨hp1, hp2⟩ := hw p (.head _)
  have ihl : qgy D l := fun q hq => hw q (.tail _ hq)
  have hwf : zb1 D1 p.1 p.2 = if (zgs D1).1 = 0 then (0, { (zgs D1).2 with wait := (zgs D1).2.wait ++ [(p.2, p.1)] }) else zgs D1 := by
   unfold zb1
   rw [h1, if_neg (by decide), if_neg (by rw [h2]; exact fun h => h hp1), if_neg (by rw [hp2]; decide)]
  rw [zb6, hwf]
  unfold zgs
  cases hl : D1.left with
  | none =>
   simp only [if_true]
   have := zo0 (D := D) (pre := pre ++ [p]) (ws := l) (D1 := { D1 with wait := D1.wait ++ [(p.2, p.1)] }) ihl h1 h2 (by simp [h3, swp]) h4 h5
   rw [List.append_assoc] at this
   exact this
  | some n =>
   cases n with
   | zero =>
    right
    have hD : D.left ≠ none := fun h => by rw [h5 h] at hl; cases hl
    refine ⟨hD, ?_⟩
    refine ⟨rfl, rfl, rfl, rfl, rfl, ?_⟩
    have := zt5 D.on pre (zib D1.keep) pre.length (Nat.le_refl _)
    show Mix D.on _ (zs7 D1 D1.keep).on
    unfold zs7
    rw [h2, h3]
    show Mix D.on _ (zif D.on (swp pre) (zib D1.keep) (swp pre).length)
    rw [show (swp pre).length = pre.length by simp [swp]]
    exact this.more fun q hq => List.mem_append_left _ hq
   | succ n =>
    simp only [if_true]
    have := zo0 (D := D) (pre := pre ++ [p]) (ws := l) (D1 := { D1 with left := some n, wait := D1.wait ++ [(p.2, p.1)] }) ihl h1 h2 (by simp [h3, swp]) h4 (fun h => by rw [h5 h] at hl; cases hl)
    rw [List.append_assoc] at this
    exact this
theorem qga {D : Dsk} (hr : D.Rest) {ws : List (Nat × Bys)} (hw : qgy D ws) :
  ((zcs D ws).1 = 0 ∧ (zcs D ws).2.Rest ∧ (zcs D ws).2.on = zd8 D.on ws ∧ (zcs D ws).2.keep = D.keep ∧ (D.left = none → (zcs D ws).2.left = none)) ∨
  (D.left ≠ none ∧ (zcs D ws).1 = 4 ∧ (zcs D ws).2.dead = true ∧ (zcs D ws).2.wait = [] ∧ (zcs D ws).2.left = none ∧ (zcs D ws).2.keep = [] ∧ Mix D.on ws (zcs D ws).2.on) := by
 have h0 := zo0 (D := D) (pre := []) (D1 := D) hw hr.live rfl (by rw [hr.wait]; rfl) rfl id
 simp only [List.nil_append] at h0
 unfold zcs
 generalize zb6 D ws = r at h0 ⊢
 rcases h0 with ⟨a1, a2, a3, a4, a5, a6⟩ | ⟨b0, b1, b2, b3, b4, b5, b6⟩
 ·rw [if_pos a1]
  obtain ⟨r1, D1⟩ := r
  simp only at a1 a2 a3 a4 a5 a6 ⊢
  have hfl : zb8 D1 = if (zgs D1).1 = 0 then (0, zrx (zgs D1).2) else zgs D1 := by
   unfold zb8
   rw [a2, if_neg (by decide)]
  rw [hfl]
  unfold zgs
  have hlen : (swp ws).length = ws.length := by simp [swp]
  cases hl : D1.left with
  | none =>
   rw [if_pos rfl]
   refine .inl ⟨rfl, ⟨a2, rfl⟩, ?_, a5, fun _ => hl⟩
   show zif D1.on D1.wait (fun _ => true) D1.wait.length = _
   rw [a3, a4, hlen, zte _ _ _ (Nat.le_refl _), List.take_length]
  | some n =>
   cases n with
   | zero =>
    right
    have hD : D.left ≠ none := fun h => by rw [a6 h] at hl; cases hl
    refine ⟨hD, ?_⟩
    refine ⟨rfl, rfl, rfl, rfl, rfl, ?_⟩
    show Mix D.on _ (zif D1.on D1.wait (zib D1.keep) D1.wait.length)
    rw [a3, a4, hlen]
    exact zt5 D.on ws _ _ (Nat.le_refl _)
   | succ n =>
    rw [if_pos rfl]
    refine .inl ⟨rfl, ⟨a2, rfl⟩, ?_, a5, fun h => by rw [a6 h] at hl; cases hl⟩
    show zif D1.on D1.wait (fun _ => true) D1.wait.length = _
    rw [a3, a4, hlen, zte _ _ _ (Nat.le_refl _), List.take_length]
 ·rw [if_neg (by rw [b1]; decide)]
  exact .inr ⟨b0, b1, b2, b3, b4, b5, b6⟩
theorem zfh {D : Dsk} (h : D.wait = []) (i : Nat) : zch D i = D.on.getD i [] := by
 unfold zch
 rw [h]
 rfl
theorem zfg : ∀ {ws : List (Nat × Bys)} {on : List Bys} {i : Nat}, (∀ p ∈ ws, p.1 ≠ i) → (zd8 on ws)[i]? = on[i]?
 | [], _, _, _ => rfl
 | p :: l, on, i, h => by
  rw [zd8, zfg (fun q hq => h q (.tail _ hq)), List.getElem?_set_ne (h p (.head _))]
end Go.Proofs.YtkkfifhaobjicaaGreatDoor
namespace Go.Proofs.YtkkfifhaobjicaaGreatDoor
open Go.RowKit Go.Eng
set_option maxRecDepth 100000
def wsC (g : Lg) (t : Bys) : List (Nat × Bys) := (qp7 g.next t).map fun s => (zbh s.seq g.h.secs, zno s)
def qkk (D : Dsk) (g : Lg) (t : Bys) : Nat × Dsk :=
 if g.h.secs < zbb t.length then (6, D) else if g.h.secs - g.used < zbb t.length then (5, D) else zcs D (wsC g t)
def qql (D : Dsk) (g : Lg) (t : Bys) : Lg := if (qkk D g t).1 = 0 then { g with next := g.next + zbb t.length, used := g.used + zbb t.length } else g
theorem zpd : ∀ (l : List (Nat × Bys)) (D : Dsk) (p : Nat × Bys), zb6 D (l ++ [p]) = if (zb6 D l).1 = 0 then zb1 (zb6 D l).2 p.1 p.2 else zb6 D l
 | [], D, p => by
  show (if (zb1 D p.1 p.2).1 = 0 then (0, (zb1 D p.1 p.2).2) else zb1 D p.1 p.2) = zb1 D p.1 p.2
  by_cases h : (zb1 D p.1 p.2).1 = 0
  ·rw [if_pos h, ← h]
  ·rw [if_neg h]
 | q :: l, D, p => by
  rw [List.cons_append, zb6, zb6]
  by_cases h : (zb1 D q.1 q.2).1 = 0
  ·rw [if_pos h, if_pos h, zpd l]
  ·rw [if_neg h, if_neg h, if_neg h]
theorem zn2 : ∀ (l l' : List (Nat × Bys)) (D : Dsk), (zb6 D l).1 ≠ 0 → zb6 D (l ++ l') = zb6 D l
 | [], _, _, h => absurd rfl h
 | q :: l, l', D, h => by
  rw [List.cons_append, zb6, zb6]
  rw [zb6] at h
  by_cases h' : (zb1 D q.1 q.2).1 = 0
  ·rw [if_pos h'] at h ⊢
   rw [if_pos h', zn2 l l' _ h]
  ·rw [if_neg h', if_neg h']
theorem ziw : ∀ (l : List (Nat × Bys)) (D : Dsk), D.Ok → (zb6 D l).2.Ok
 | [], _, h => h
 | q :: l, D, h => by
  rw [zb6]
  split
  ·exact ziw l _ (qad h _ _)
  ·exact qad h _ _
theorem zij : ∀ (l : List (Nat × Bys)) (D : Dsk), D.Ok → (zb6 D l).1 = 0 → (zb6 D l).2.keep = D.keep ∧ (zb6 D l).2.wait.length = D.wait.length + l.length
 | [], _, _, _ => ⟨rfl, rfl⟩
 | q :: l, D, h, h0 => by
  rw [zb6] at h0 ⊢
  by_cases h' : (zb1 D q.1 q.2).1 = 0
  ·rw [if_pos h'] at h0 ⊢
   obtain ⟨h1, h2, h3, -⟩ := zlm h q.1 q.2 h'
   obtain ⟨h4, h5⟩ := zij l _ h1 h0
   refine ⟨h4.trans h2, ?_⟩
   rw [h5, h3]
   simp
   omega
  ·rw [if_neg h'] at h0
   exact absurd h0 h'
end Go.Proofs.YtkkfifhaobjicaaGreatDoor
