/- maps.Keys of a map keyed by whole numbers; slices.Collect of its keys. -/
/- slices.AppendSeq and slices.Collect of whole numbers; maps.Keys. -/
/- package pages: a store in memory; its small functions. -/
/- package pages: says, Abort, Put, Page. -/
/- package pages: Page. -/
/- package pages: sets, used, Alloc, Free, Used. -/
/- slices.Sort and slices.Sorted of whole numbers. -/
/- package pages: written. -/
/- package pages: text. -/
/- package pages: images. -/
/- package pages: all, whatever its steps. -/
/- package pages: out. -/
/- package pages: out. -/
/- The two steps of an assignment to a map's entry among others: the entry is found or made, then it is stored. -/
/- package pages: Commit, the pages that are kept behind it. -/
/- package pages: Commit. -/
/- package pages: Format. -/
/- package pages: the end of Open, a flush and a trim. -/
import Derived.Test.YtkkfifhaobjicaaGreatDoorHc08
import Derived.Test.YtkkfifhaobjicaaGreatDoorHc05
import Derived.Test.YtkkfifhaobjicaaGreatDoorChecked
import Derived.Shelf.SortM.Plain
import Derived.Shelf.SortM.SortNone
import Derived.Sort.OwnSortedInts
namespace Go.Proofs.YtkkfifhaobjicaaGreatDoor
open Go.RowKit Go.Eng
set_option maxRecDepth 100000
set_option maxHeartbeats 40000000
def kyI (x : Nat) (b : Nat) (A : zch) : List Eng.Item := [pt x (.cells #[.map (some b)] 91 (0, 0)), zd8 .i64 b A]
theorem zmk (x b : Nat) (A : zch) : ∀ it ∈ kyI x b A, it.Stable none' := by simp [kyI, zac, za6]
def zo4 (A : zch) : List Nat := A.map (·.1)
theorem zyo {b : Nat} {q : IntKind} {A : zch} {w : World} (h : (zd8 q b A).prop w) : (zo4 A).Nodup := by
 obtain ⟨es, clk, -, R⟩ := h
 exact R.nodup
theorem zr4 {A : zch} {k : List Nat} {L : zch} (hL : L = A.filter fun x => decide (x.1 ∉ k)) (p : Nat × Value) : qdz L p = A.filter fun x => decide (x.1 ∉ k ++ [p.1]) := by
 subst hL
 unfold qdz
 rw [jP]
 refine jW fun x _ => ?_
 by_cases h1 : x.1 = p.1 <;> by_cases h2 : x.1 ∈ k <;> simp [h1, h2]
abbrev kyE (A : zch) : List Nat → Nat → Prop := fun k x => (k ++ [x]).Nodup ∧ ∀ y ∈ k ++ [x], y ∈ zo4 A
abbrev kyS (A : zch) : List Nat → Prop := fun k => k.Perm (zo4 A)
theorem qfq (x b : Nat) (A : zch) : qd4 Tryz.prog 166 [.pointer (some ⟨x, 0, none⟩)] (kyI x b A) [zd8 .i64 b A] (kyE A) (kyS A) (fun n => [.int .i64 (n : Int)]) := by
 simp only [kyI]
 refine qi2 [_] _ _ _ _ _ Tryz.func166 rfl rfl ?_
 intro σ ly Y I J s0 w hst h0 hy
 simp only [zaa]
 refine zfd (fun w hw => zyo (hw.item (zd8 .i64 b A) sQ).1) fun hnd => ?_
 refine goA ?_
 refine za0 [2, 0, 1] rfl rfl ?_
 refine zaz rfl (qar rfl rfl rfl) fun ⟨r, hr⟩ => ?_
 refine goA ?_
 refine zcp (α := zch × List Nat × Option (Nat × Value) × σ) (fun y => [(0, .func (.yield ly) #[] #[]), (1, .pointer (some ⟨x, 0, none⟩)), (5, .pointer (some ⟨r, 0, none⟩))]) (fun y => y.1 = A.filter (fun x => decide (x.1 ∉ y.2.1)) ∧ y.2.1.Nodup ∧ (∀ z ∈ y.2.1, z ∈ zo4 A) ∧ I y.2.1 y.2.2.2) (fun y => [itN .i64 r b A y.1 y.2.2.1, Y y.2.2.2]) (fun y => y.1.length) (A, [], none, s0) ⟨rfl, rfl, rfl, trivial⟩ ⟨by show A = A.filter (fun x => decide (x.1 ∉ ([] : List Nat))); exact (cX.2 fun _ _ => by simp).symm, fI, ⟨(fun _ (h : _ ∈ ([] : List Nat)) => nomatch h), h0⟩⟩ (fun w h => h.sub (.cons_cons _ (.cons_cons _ (aD _)))) fun ⟨L, k, c, st⟩ ⟨hL, hk, hkA, hI⟩ => ?_
 simp only at hL hk hkA hI ⊢
 refine goA ?_
 refine zaz rfl (qf8 rfl rfl) fun ⟨y, hyy⟩ => ?_
 cases y with
 | none =>
  simp only at hyy ⊢
  refine goA ?_
  subst hyy
  have hS : kyS A k := by
   refine (List.perm_ext_iff_of_nodup hk hnd).2 fun z => ⟨hkA z, fun hz => ?_⟩
   obtain ⟨p, hp, rfl⟩ := aT.1 hz
   by_cases h : p.1 ∈ k
   ·exact h
   ·have : p ∈ A.filter (fun x => decide (x.1 ∉ k)) := eG.2 ⟨hp, by simpa using h⟩
    rw [← hL] at this
    exact nomatch this
  refine zb3 (m' := [Y st, zd8 .i64 b A]) (fun w' hw' => (zyl hw').pick [1, 0] rfl rfl) (qkg st rfl (.inl ⟨k, hS, hI⟩) ?_ (.refl _))
  intro it hm
  rcases hm with _ | ⟨_, _ | ⟨_, hm⟩⟩
  ·exact hst st
  ·exact za6 _ _ _ _
  ·exact nomatch hm
 | some p =>
  simp only at hyy ⊢
  have hpk : p.1 ∉ k ∧ p ∈ A := by
   rw [hL] at hyy
   obtain ⟨h1, h2⟩ := eG.1 hyy
   exact ⟨by simpa using h2, h1⟩
  have hE : kyE A k p.1 := by
   refine ⟨?_, fun z hz => ?_⟩
   ·rw [cQ]
    refine ⟨hk, by simp, fun a ha b hb => ?_⟩
    rw [aL] at hb
    subst hb
    exact fun e => hpk.1 (e ▸ ha)
   ·rcases aS.1 hz with hz | hz
    ·exact hkA z hz
    ·rw [aL] at hz
     subst hz
     exact aT.2 ⟨p, hpk.2, rfl⟩
  have hlt := qau hyy
  have hof := zr4 hL p
  refine goA ?_
  refine l_w rfl (qbl rfl (.head _)) ?_
  refine goA ?_
  refine za0 [1, 0] rfl rfl ?_
  refine qfu rfl rfl rfl rfl (hst st) (hy k p.1 st hE hI) fun bb s' hR => ?_
  rcases hR with ⟨rfl, h8⟩ | ⟨rfl, h8⟩
  ·refine goA ?_
   exact zav (qdz L p, k ++ [p.1], some p, s') ⟨rfl, rfl, rfl, trivial⟩ ⟨hof, hE.1, hE.2, h8⟩ (fun w hw => hw.pick [1, 0] rfl rfl) hlt
  ·refine goA ?_
   refine zb3 (m' := [Y s', zd8 .i64 b A]) (fun w' hw' => (zyl (hw'.pick [1, 0] rfl rfl)).pick [1, 0] rfl rfl) (qn2 s' rfl (.inr h8) ?_ (.refl _))
   intro it hm
   rcases hm with _ | ⟨_, _ | ⟨_, hm⟩⟩
   ·exact hst s'
   ·exact za6 _ _ _ _
   ·exact nomatch hm
def zfw (L : List Nat) : List Value := L.map fun n : Nat => Value.int .i64 (n : Int)
def aiB (b : Nat) (y : Option (Nat × Nat) × List Nat) : List Eng.Item := [own 3 1 y.1 y.2.length (zfw y.2), pt b (.cells #[slV y.1 y.2.length] 99 (0, 0))]
theorem zrf (b : Nat) (y : Option (Nat × Nat) × List Nat) : ∀ it ∈ aiB b y, it.Stable none' := by simp [aiB, zac, zab]
theorem ztq {f : FuncId} {cs : List Value} {mi mo : List Eng.Item} {E : List Nat → Nat → Prop} {S : List Nat → Prop} (hb : zbu Tryz.prog f = true) (hit : qd4 Tryz.prog f cs mi mo E S (fun n => [.int .i64 (n : Int)])) (hmi : ∀ it ∈ mi, it.Stable none') (hmo : ∀ it ∈ mo, it.Stable none') (hE : ∀ k x, E k x → k.length < 1000000000) (w : World) (hw : ∀ it ∈ mi, za1 it w) (ha : mi.Pairwise Eng.Item.Apart) :
  Ct Tryz.prog 184 #[.slice none 0 0, .func (.func f) #[] cs.toArray] w (zan mi) (fun x : Option (Nat × Nat) × List Nat => slV x.1 x.2.length) (fun x => S x.2) (fun x => own 3 1 x.1 x.2.length (zfw x.2) :: mo) := by
 refine qev [_, _] mi Tryz.func184 rfl rfl hw ha ?_
 simp only [zaa]
 refine goA ?_
 refine zd3 rfl rfl rfl fun b2 _ => ?_
 refine goA ?_
 refine zso 3 1 ?_
 refine zsp (m' := aiB b2 (none, []) ++ (mi ++ [])) (by rw [bA]; exact .refl _) ?_
 refine qj2 (m2 := []) (aiB b2) (fun k y => y.2 = k) (fun _ _ => False) (none, []) rfl rfl hb hit (fun _ => rfl) dQ (zrf _) hmi rfl ?_ ?_ ?_
 ·rintro ly rc k x ⟨o, out⟩ W hx hk
  simp only at hk
  subst hk
  have hlen := hE _ _ hx
  simp only [aiB, znk, gJ, iD]
  refine goA ?_
  refine qkf ?_
  refine goA ?_
  refine zaz rfl (zba rfl rfl rfl rfl rfl rfl) fun ⟨bq, hbq⟩ => ?_
  refine goA ?_
  refine zaz rfl (zai (zda _ _ _ _) (zdh (news := [.int .i64 (x : Int)]) rfl rfl rfl rfl rfl rfl rfl rfl oQ (fun w' hw' j v hj => by rw [zc9, aF]; exact zbm (hw'.item _ (.tail _ (.head _))).1 j v hj))) fun o' => ?_
  refine goA ?_
  refine za0 [3, 0, 2] rfl rfl ?_
  refine zaz rfl (zah rfl rfl rfl rfl (zsm _ _) (qa9 _ _) (show (0 : Nat) < 1 from dQ)) fun _ => ?_
  refine za0 [2, 1, 0] rfl rfl ?_
  refine goA ?_
  have e1 : (out ++ [x]).length = out.length + 1 := by simp
  have e2 : zfw (out ++ [x]) = zfw out ++ [.int .i64 (x : Int)] := by simp [zfw]
  refine znv .normal none rfl (o', out ++ [x]) rfl ?_ (zrf b2 _)
  simp only [aiB, e1, e2]
  exact .refl _
 ·rintro D k ⟨o, out⟩ hS hk
  simp only at hk
  subst hk
  simp only [aiB, bA]
  refine goA ?_
  refine qn3 ?_
  exact zbs (o, out) rfl rfl rfl hS (.cons_cons _ (.cons _ (.refl _))) (by
   intro it hm
   rcases hm with _ | ⟨_, hm⟩
   ·exact zab _ _ _ _ _ _
   ·exact hmo it hm)
 ·rintro D c s h
  exact h.elim
theorem zq3 {f : FuncId} {cs : List Value} {mi mo : List Eng.Item} {E : List Nat → Nat → Prop} {S : List Nat → Prop} (hb : zbu Tryz.prog f = true) (hit : qd4 Tryz.prog f cs mi mo E S (fun n => [.int .i64 (n : Int)])) (hmi : ∀ it ∈ mi, it.Stable none') (hmo : ∀ it ∈ mo, it.Stable none') (hE : ∀ k x, E k x → k.length < 1000000000) (w : World) (hw : ∀ it ∈ mi, za1 it w) (ha : mi.Pairwise Eng.Item.Apart) :
  Ct Tryz.prog 164 #[.func (.func f) #[] cs.toArray] w (zan mi) (fun x : Option (Nat × Nat) × List Nat => slV x.1 x.2.length) (fun x => S x.2) (fun x => own 3 1 x.1 x.2.length (zfw x.2) :: mo) := by
 refine zbb [_] mi Tryz.func164 rfl rfl hw ha ?_
 simp only [zaa]
 refine goA ?_
 refine zj8 (m' := mi ++ []) (by rw [bA]) ?_
 refine zgt rfl (zg5 (pre := mi) (m := []) rfl kQ rfl hmi (fun w1 hw1 hh1 ha1 => ztq hb hit hmi hmo hE w1 hh1 ha1)) fun ⟨⟨o, out⟩, hS⟩ => ?_
 dsimp only at hS ⊢
 refine zj8 (m' := own 3 1 o out.length (zfw out) :: mo) (by rw [bA]) ?_
 refine goA ?_
 exact zbs (o, out) rfl rfl rfl hS (.refl _) (by
   intro it hm
   rcases hm with _ | ⟨_, hm⟩
   ·exact zab _ _ _ _ _ _
   ·exact hmo it hm)
def kyV (x : Nat) : Value := .func (.func 166) #[] #[.pointer (some ⟨x, 0, none⟩)]
theorem qcj (b : Nat) (w : World) : Ct Tryz.prog 136 #[.map (some b)] w none' kyV (fun _ => True) (fun x => [pt x (.cells #[.map (some b)] 91 (0, 0))]) := by
 refine zfv [_] Tryz.func136 rfl rfl ?_
 simp only [zaa]
 refine goA ?_
 refine zd3 rfl rfl rfl fun b1 _ => ?_
 refine goA ?_
 refine l_w rfl (zn5 rfl) ?_
 refine goA ?_
 exact zbs b1 rfl rfl rfl trivial (.refl _) (by simp [zac])
end Go.Proofs.YtkkfifhaobjicaaGreatDoor
namespace Go.Eng
open Go.RowKit
variable {P : Program} {l : zaq} {H : World → Prop} {ty : TypeId} {q : IntKind} {x y : Operand} {T k e : TypeId} {b : Nat} {A : zch} {h : Nat} {zv : Value}
/-! Maps that lie there, items or not. -/
end Go.Eng
namespace Go.Proofs.YtkkfifhaobjicaaGreatDoor
open Go.RowKit Go.Eng Go.Eng.Bm
set_option maxRecDepth 100000
set_option maxHeartbeats 40000000
abbrev PR := List (Nat × Bys)
def pgV (s : Bys) : Value := .agg (zaf s).toArray
def toP (A : PR) : zch := A.map fun p => (p.1, pgV p.2)
def toB (R : List Nat) : zch := R.map fun n => (n, .bool true)
structure Pg where
 b : Nat
 bl : Nat
 kb : Nat
 db : Nat
 cb : Nat
 g : Lg
 n : Nat
 note : Bys
 K : PR
 R : List Nat
 C : PR
 dead : Bool
abbrev pgA (s : Pg) (d : Dk) : Array Value := #[.pointer (some ⟨s.bl, 0, none⟩), .pointer (some ⟨d.b, 0, none⟩), .int .i64 (s.n : Int), .string ⟨s.note.toArray⟩, .map (some s.kb), .map (some s.db), .map (some s.cb), .bool s.dead]
abbrev pgC (s : Pg) (d : Dk) : Eng.Item := pt s.b (.cells (pgA s d) 94 (0, 0))
def pgL (s : Pg) (d : Dk) : List Eng.Item := [pgC s d, lgI s.bl d s.g, zd8 .i64 s.kb (toP s.K), zd8 .i64 s.db (toB s.R), zd8 .i64 s.cb (toP s.C)]
def pgI (s : Pg) (d : Dk) : Eng.Item := zg3 (pgL s d)
theorem qc7 (s : Pg) (d : Dk) : ∀ it ∈ pgL s d, it.Stable none' := by simp [pgL, zac, za6]
theorem zco (s : Pg) (d : Dk) : (pgI s d).Stable none' := zad _
theorem zi2 {s : Pg} {d : Dk} {w w0 : World} {F : Nat → Prop} {m : List Eng.Item} (h : Hp w0 F (pgI s d :: m) w) : Hp w0 F (pgL s d ++ m) w := Hp.open1 h
theorem zgc {s : Pg} {d : Dk} {w w0 : World} {F : Nat → Prop} {m : List Eng.Item} (h : Hp w0 F (pgL s d ++ m) w) : Hp w0 F (pgI s d :: m) w := Hp.close1 (qc7 s d) h
theorem qgn {s : Pg} {d : Dk} {w : World} (h : za1 (pgI s d) w) {it : Eng.Item} (hm : it ∈ pgL s d) : za1 it w := h.1.1 it hm
theorem zq8 {s : Pg} {d : Dk} {w : World} (h : za1 (pgI s d) w) (i : Nat) {v : Value} (hv : (pgA s d)[i]? = some v) : w.cell? ⟨s.b, i, none⟩ = some v :=
 zdv (qgn h (it := pgC s d) (.head _)).1 hv
theorem qpq {s : Pg} {d : Dk} {w : World} (h : za1 (pgI s d) w) : za1 (lgI s.bl d s.g) w := qgn h (.tail _ (.head _))
theorem zfy (a b : Nat) (ha : a ≤ 1000000) (hb : b ≤ 1000000) (w : World) : Pu Tryz.prog 75 #[.int .i64 a, .int .i64 b] w (.int .i64 (2 + a + b : Nat)) := by
 refine zbh [_, _] Tryz.func75 rfl rfl ?_
 simp only [zaa, Nat.reduceAdd]
 refine goA ?_
 exact zcz rfl rfl rfl
theorem zt7 (s : Pg) (d : Dk) (w : World) (h : za1 (pgI s d) w) : Pu Tryz.prog 101 #[.pointer (some ⟨s.b, 0, none⟩)] w (.int .i64 (s.n : Int)) := by
 refine zbh [_] Tryz.func101 rfl rfl ?_
 simp only [zaa]
 refine goA ?_
 refine l_w rfl (zay rfl rfl (fun w' hw' => zq8 (h.keep hw') 2 rfl)) ?_
 refine goA ?_
 exact zcz rfl rfl rfl
theorem zq9 (s : Pg) (d : Dk) (hn : s.n ≤ 1024) (hs : s.g.h.secs < 65536) (w : World) (h : za1 (pgI s d) w) : Pu Tryz.prog 91 #[.pointer (some ⟨s.b, 0, none⟩)] w (.int .i64 (2 + s.g.h.secs + s.n : Nat)) := by
 refine zbh [_] Tryz.func91 rfl rfl ?_
 simp only [zaa]
 refine goA ?_
 refine zao [] 11 rfl rfl kQ ?_
 (repeat first | refine dAv [3, 8] rfl rfl rfl ?_ | refine dno [3, 8] rfl rfl rfl ?_ | refine dT [3, 8] rfl rfl rfl rfl ?_ | refine dF [3, 8] rfl rfl rfl rfl ?_)
 refine d_v [8] rfl rfl kQ (fun _ h => goH h) rfl rfl (zay rfl rfl (fun w' hw' => zq8 (h.keep hw') 0 rfl)) ?_
 (repeat first | refine dAv [8] rfl rfl rfl ?_ | refine dno [8] rfl rfl rfl ?_ | refine dT [8] rfl rfl rfl rfl ?_ | refine dF [8] rfl rfl rfl rfl ?_)
 refine d_v [4] rfl rfl kQ (fun _ h => goH h) rfl rfl (zay rfl rfl (fun w' hw' => zq8 (h.keep hw') 2 rfl)) ?_
 refine goE ?_
 refine zaw 4 ⟨kQ, dQ⟩ rfl rfl (zfb rfl kQ rfl (fun w1 hw1 => zgu s.bl d s.g w1 (qpq (h.keep hw1)))) (fun _ _ h => goH h) fun _ => ?_
 refine goE ?_
 refine zaw 9 ⟨kQ, dQ⟩ rfl rfl (zfb rfl kQ rfl (fun w1 hw1 => zfy s.g.h.secs s.n oQ oQ w1)) (fun _ _ h => goH h) fun _ => ?_
 refine goX ?_
 exact zcz rfl rfl rfl
def qdx (s : Pg) (i : Int) : Nat := if i < 0 ∨ (s.n : Int) ≤ i then 2 else if s.dead then 4 else 0
theorem zo8 (s : Pg) (d : Dk) (i : Int) (w : World) (h : za1 (pgI s d) w) : Pu Tryz.prog 33 #[.pointer (some ⟨s.b, 0, none⟩), .int .i64 i] w (.int .i64 (qdx s i : Nat)) := by
 refine zbh [_, _] Tryz.func33 rfl rfl ?_
 simp only [zaa, Nat.reduceAdd]
 refine goA ?_
 unfold qdx
 by_cases h0 : i < 0
 ·refine goA ?_
  exact zcz rfl rfl (by rw [if_pos (.inl h0)]; rfl)
 ·refine goA ?_
  refine l_w rfl (zay (v := .int .i64 (s.n : Int)) rfl rfl (fun w' hw' => zq8 (h.keep hw') 2 rfl)) ?_
  refine goA ?_
  by_cases h1 : (s.n : Int) ≤ i
  ·refine goA ?_
   exact zcz rfl rfl (by rw [if_pos (.inr h1)]; rfl)
  ·refine goA ?_
   refine l_w rfl (zay (v := .bool s.dead) rfl rfl (fun w' hw' => zq8 (h.keep hw') 7 rfl)) ?_
   rw [if_neg oQ]
   cases hd : s.dead with
   | true =>
    refine goA ?_
    exact zcz rfl rfl rfl
   | false =>
    refine goA ?_
    exact zcz rfl rfl rfl
end Go.Proofs.YtkkfifhaobjicaaGreatDoor
namespace Go.Eng
open Go.RowKit
section
variable {P : Program} {Q : Exit → Act → World → Prop} {N : Fm} {l : zaq} {H : World → Prop} {w0 : World} {F : Nat → Prop} {m : List Item} {ty : TypeId} {pos : String} {after : Array Edge} {g : Option (Nat × Bool)} {op : Op} {x : Operand} {b : Nat} {q : IntKind} {T : TypeId} {A : zch}
theorem qpm {α : Type} {val : α → Value} {H' : α → World → Prop} (hok : (zhi op && zes l op) = true) (hr : ∀ w, H w → ∃ x w', (execOp (ev l) ⟨none, op, ty, pos, after, g⟩).run P w = .ok (.value (val x)) w' ∧ H' x w') :
  HO P ⟨none, op, ty, pos, after, g⟩ Q N l H (fun _ => l) H' := by
 simp only [bH] at hok
 unfold HO
 intro a w s hw K hK
 refine ⟨zpb hok.1, ?_⟩
 obtain ⟨x, w', hr, hw'⟩ := hr w hw
 unfold Oper.wp
 rw [s.exec _ (zmu hok.1) hok.2, hr]
 exact hK x _ _ s hw'
end
end Go.Eng
namespace Go.Proofs.YtkkfifhaobjicaaGreatDoor
open Go.RowKit Go.Eng Go.Eng.Bm
set_option maxRecDepth 100000
set_option maxHeartbeats 40000000
section ins
variable {β : Type}
def zeu (B : List (Nat × β)) (h : Nat) (s : β) : List (Nat × β) := if (B.lookup h).isSome then B.map (fun p => if p.1 = h then (h, s) else p) else B ++ [(h, s)]
def toG (enc : β → Value) (B : List (Nat × β)) : zch := B.map fun p => (p.1, enc p.2)
theorem zss (enc : β → Value) (B : List (Nat × β)) (n : Nat) : (toG enc B).lookup n = (B.lookup n).map enc := by
 unfold toG
 induction B with
 | nil => rfl
 | cons p B ih =>
  rw [bD, cF, cF]
  cases h : n == p.1 with
  | true => rfl
  | false => exact ih
theorem qne (enc : β → Value) (B : List (Nat × β)) (h : Nat) (s : β) : toG enc (zeu B h s) = ztu (toG enc B) h (enc s) := by
 unfold zeu ztu
 rw [zss, iO]
 split
 ·unfold toG
  rw [dR, dR]
  refine dD fun p _ => ?_
  show (_, _) = _
  by_cases hp : p.1 = h
  ·simp [hp]
  ·simp [hp]
 ·unfold toG
  rw [cD]; rfl
theorem zc7 (B : List (Nat × β)) (h : Nat) (s : β) (k : Nat) : (zeu B h s).lookup k = if k = h then some s else B.lookup k := by
 unfold zeu
 split
 ·rename_i hs
  have : ∀ L : List (Nat × β), (L.map fun p => if p.1 = h then (h, s) else p).lookup k = if k = h then (L.lookup k).map (fun _ => s) else L.lookup k := by
   intro L
   induction L with
   | nil => simp
   | cons p L ih =>
    obtain ⟨q, x⟩ := p
    rw [bD]
    by_cases hq : q = h
    ·subst hq
     rw [if_pos rfl, cF, cF]
     by_cases hk : k = q
     ·subst hk; simp
     ·have : (k == q) = false := by simpa using hk
      rw [this]
      simp only [if_neg hk] at ih ⊢
      exact ih
    ·rw [if_neg hq, cF, cF, ih]
     by_cases hk : k = q
     ·subst hk
      simp [hq]
     ·have : (k == q) = false := by simpa using hk
      rw [this]
  rw [this]
  by_cases hk : k = h
  ·subst hk
   rw [if_pos rfl, if_pos rfl]
   cases hb : B.lookup k with
   | none => rw [hb] at hs; cases hs
   | some x => rfl
  ·rw [if_neg hk, if_neg hk]
 ·rename_i hs
  have hs' : B.lookup h = none := by
   cases hb : B.lookup h with
   | none => rfl
   | some x => rw [hb] at hs; exact absurd rfl hs
  by_cases hk : k = h
  ·subst hk
   rw [if_pos rfl, iC, hs']
   simp
  ·rw [if_neg hk, iC]
   have : ([(h, s)] : List (Nat × β)).lookup k = none := by
    rw [cF, show (k == h) = false by simpa using hk]; rfl
   rw [this]
   cases B.lookup k <;> rfl
theorem qiw {B : List (Nat × β)} {h : Nat} {s : β} {p : Nat × β} (hp : p ∈ zeu B h s) : p = (h, s) ∨ p ∈ B := by
 unfold zeu at hp
 split at hp
 ·obtain ⟨q, hq, rfl⟩ := aT.1 hp
  split
  ·exact .inl rfl
  ·exact .inr hq
 ·rcases aS.1 hp with hp | hp
  ·exact .inr hp
  ·exact .inl (aL.1 hp)
theorem zcj {B : List (Nat × β)} {n : Nat} {s : β} (h : B.lookup n = some s) : (n, s) ∈ B := by
 induction B with
 | nil => cases h
 | cons p B ih =>
  obtain ⟨q, x⟩ := p
  rw [cF] at h
  by_cases hk : n = q
  ·subst hk
   simp at h
   subst h
   exact .head _
  ·have : (n == q) = false := by simpa using hk
   rw [this] at h
   exact .tail _ (ih h)
end ins
theorem zqk (A : PR) (h : Nat) (s : Bys) : toP (zeu A h s) = ztu (toP A) h (pgV s) := qne pgV A h s
theorem zsu (A : PR) (h : Nat) : (toP A).lookup h = (A.lookup h).map pgV := zss pgV A h
def PR.Ok (A : PR) (n : Nat) : Prop := ∀ p ∈ A, p.1 < n ∧ p.2.length = 512
theorem PR.Ok.ins {A : PR} {n h : Nat} {s : Bys} (hA : A.Ok n) (hh : h < n) (hs : s.length = 512) : PR.Ok (zeu A h s) n := fun p hp => by
 rcases qiw hp with rfl | hp
 ·exact ⟨hh, hs⟩
 ·exact hA p hp
theorem okI {n : Nat} (h : n ≤ 1000000) : okN .i64 n := by
 unfold okN
 simp [Lit.wf, IntKind.min, IntKind.max, IntKind.signed, IntKind.bits]
 omega
theorem zc2 (s : Pg) (d : Dk) : ∀ it ∈ [pgI s d], it.Stable none' := by
 intro it hm
 rcases hm with _ | ⟨_, hm⟩
 ·exact zco s d
 ·exact nomatch hm
theorem qdi (s : Pg) (d : Dk) (e : Nat) (w : World) (hw : ∀ it ∈ [pgI s d], za1 it w) : Ct Tryz.prog 100 #[.pointer (some ⟨s.b, 0, none⟩), .int .i64 (e : Int)] w (zan [pgI s d]) (fun _ : Unit => .int .i64 (e : Int)) (fun _ => True) (fun _ => [pgI { s with dead := s.dead || decide (e = 4) } d]) := by
 refine zbb [_, _] _ Tryz.func100 rfl rfl hw (.cons (fun _ h => nomatch h) .nil) ?_
 simp only [zaa, Nat.reduceAdd]
 refine zlx (m' := pgL s d) (fun w h => zi2 (m := []) h) ?_
 unfold pgL
 obtain ⟨b, bl, kb, db, cb, g, n, note, K, R, C, dead⟩ := s
 simp only
 have hend : ∀ x : Bool, ∀ w', Hp w (zan [pgI ⟨b, bl, kb, db, cb, g, n, note, K, R, C, dead⟩ d]) (pgL ⟨b, bl, kb, db, cb, g, n, note, K, R, C, x⟩ d) w' → Hp w (zan [pgI ⟨b, bl, kb, db, cb, g, n, note, K, R, C, dead⟩ d]) [pgI ⟨b, bl, kb, db, cb, g, n, note, K, R, C, x⟩ d] w' := fun x w' hw' => zgc (m := []) (by rw [bA]; exact hw')
 cases dead with
 | true =>
  refine goA ?_
  refine zaz rfl (zah rfl rfl rfl rfl rfl rfl (show (7 : Nat) < 8 from dQ)) fun _ => ?_
  refine goA ?_
  exact zb3 (hend true) (zbs () rfl rfl rfl trivial (.refl _) (zc2 _ _))
 | false =>
  by_cases he : e = 4
  ·subst he
   refine goA ?_
   refine zaz rfl (zah rfl rfl rfl rfl rfl rfl (show (7 : Nat) < 8 from dQ)) fun _ => ?_
   refine goA ?_
   exact zb3 (hend true) (zbs () rfl rfl rfl trivial (.refl _) (zc2 _ _))
  ·have he2 : decide (e = 4) = false := by simp [he]
   have he3 : ((e : Int) == 4) = false := by simp; omega
   rw [he2]
   refine goA ?_
   rw [he3]
   refine zaz rfl (zah rfl rfl rfl rfl rfl rfl (show (7 : Nat) < 8 from dQ)) fun _ => ?_
   refine goA ?_
   exact zb3 (hend false) (zbs () rfl rfl rfl trivial (.refl _) (zc2 _ _))
theorem zy4 (s : Pg) (d : Dk) (i : Int) (bs : Bys) (hbs : bs.length = 512) (a : Option Addr) (c : Nat) (hdead : s.dead = false) (hn : s.n ≤ 1024) (w : World) (hw : ∀ it ∈ [pgI s d], za1 it w) (hr : Rd w a (zaf bs)) (hap : ∀ b off, a = some ⟨b, off, none⟩ → ¬ zan [pgI s d] b) :
  Ct Tryz.prog 12 #[.pointer (some ⟨s.b, 0, none⟩), .int .i64 i, .slice a 512 c] w (zan [pgI s d]) (fun _ : Unit => .int .i64 (if i < 1 ∨ (s.n : Int) ≤ i then 2 else 0 : Nat)) (fun _ => True) (fun _ => [pgI (if i < 1 ∨ (s.n : Int) ≤ i then s else { s with C := zeu s.C i.toNat bs }) d]) := by
 refine zbb [_, _, _] _ Tryz.func12 rfl rfl hw (.cons (fun _ h => nomatch h) .nil) ?_
 simp only [zaa, Nat.reduceAdd]
 refine goA ?_
 refine lPu rfl (fun w1 hw1 => zo8 s d i w1 (za1.of (hw1.item _ (.head _)) (zco s d))) ?_
 have hbl : (zaf bs).length = 512 := by rw [zap, hbs]
 by_cases h1 : i < 1 ∨ (s.n : Int) ≤ i
 ·rw [if_pos h1, if_pos h1]
  by_cases h2 : i < 0 ∨ (s.n : Int) ≤ i
  ·rw [show qdx s i = 2 by rw [qdx, if_pos h2]]
   refine goA ?_
   exact zbs () rfl rfl rfl trivial (.refl _) (zc2 _ _)
  ·rw [show qdx s i = 0 by rw [qdx, if_neg h2, hdead]; rfl]
   refine goA ?_
   exact zbs () rfl rfl rfl trivial (.refl _) (zc2 _ _)
 ·rw [if_neg h1, if_neg h1, show qdx s i = 0 by rw [qdx, if_neg oQ, hdead]; rfl]
  obtain ⟨k, rfl⟩ := iF (show 0 ≤ i by omega)
  refine goA ?_
  refine zlx (m' := pgL s d) (fun w h => zi2 (m := []) h) ?_
  unfold pgL
  obtain ⟨rb, off, ha, hcell⟩ : ∃ rb off, a = some ⟨rb, off, none⟩ ∧ w.rangeAt rb off (zaf bs) := by
   rcases hr with h | ⟨rb, off, ha, hc⟩
   ·rw [h] at hbl; cases hbl
   ·exact ⟨rb, off, ha, hc⟩
  have hF := hap rb off ha
  subst ha
  refine zde [4, 0, 1, 2, 3] rfl rfl ?_
  refine zao [1, 2, 3, 4] 9 rfl rfl kQ ?_
  refine goE ?_
  refine goV rfl rfl (zw3 rfl rfl dQ) ?_
  refine goE ?_
  refine goV rfl rfl (zft (xs := zaf bs) (c := (zaf bs).toArray) rfl (by rw [hbl]; rfl) (fun w' hw' => zbe hcell hF hw') rfl) ?_
  refine zxw 33 _ (.map (some s.cb)) rfl rfl ?_
  refine zaw 8 ⟨kQ, dQ⟩ rfl rfl (zjp (h := k) (v := pgV bs) rfl rfl rfl rfl rfl rfl (okI oQ)) (fun _ _ h => goH h) fun _ => ?_
  refine zei kQ ?_
  refine goA ?_
  rw [← zqk]
  exact zb3 (m' := [pgI { s with C := zeu s.C k bs } d]) (fun w' hw' => zgc (m := []) (hw'.pick [1, 2, 3, 4, 0] rfl rfl)) (zbs () rfl rfl rfl trivial (.refl _) (zc2 _ _))
def pageB (s : Pg) (D : Dsk) (i : Nat) : Bys := ((s.C.lookup i).or (s.K.lookup i)).getD (zcf D (2 + s.g.h.secs + i))
def zcn (s : Pg) (D : Dsk) (i : Nat) : Pg := if ((s.C.lookup i).or (s.K.lookup i)).isSome then s else { s with K := zeu s.K i (zcf D (2 + s.g.h.secs + i)) }
structure Pg.Ok (s : Pg) (D : Dsk) : Prop where
 n : s.n ≤ 1024
 secs : s.g.h.secs < 65536
 room : 2 + s.g.h.secs + s.n ≤ D.on.length
 C : s.C.Ok s.n
 K : s.K.Ok s.n
theorem zdc (s : Pg) (d : Dk) : ∀ it ∈ [pgI s d, dkI d], it.Stable none' := by
 intro it hm
 rcases hm with _ | ⟨_, _ | ⟨_, hm⟩⟩
 ·exact zco s d
 ·exact zad _
 ·exact nomatch hm
theorem zsi (b : Nat) (bs : Bys) (s : Pg) (d : Dk) : ∀ it ∈ [rdI b bs, pgI s d, dkI d], it.Stable none' := by
 intro it hm
 rcases hm with _ | ⟨_, hm⟩
 ·exact zfg _ _
 ·exact zdc s d it hm
theorem zpq {s : Pg} {d : Dk} {w w0 : World} {F : Nat → Prop} {x : Eng.Item} {m : List Eng.Item} (h : Hp w0 F (x :: (pgL s d ++ m)) w) : Hp w0 F (x :: pgI s d :: m) w :=
 (zgc (m := x :: m) (h.perm bJ.symm)).perm (.swap _ _ _)
theorem qrl {b : Nat} {bs : Bys} {E : TypeId} {w w0 : World} {F : Nat → Prop} {m : List Eng.Item} (h : Hp w0 F (pt b (.cells (zaf bs).toArray E (0, 0)) :: m) w) : Hp w0 F (rdI b bs :: m) w :=
 h.imp (fun _ h => h) (fun hp => ⟨za7 hp, (bC.1 hp).1⟩) ((zfg _ _).ro _)
theorem znj (s : Pg) (d : Dk) (ok : d.D.Ok) (hlive : d.D.dead = false) (hwl : d.D.wait.length ≤ 1000000000) (hdead : s.dead = false) (sok : s.Ok d.D) (i : Nat) (hi : i < s.n) (w : World) (hw : ∀ it ∈ [pgI s d, dkI d], za1 it w) (ha : [pgI s d, dkI d].Pairwise Eng.Item.Apart) :
  Ct Tryz.prog 54 #[.pointer (some ⟨s.b, 0, none⟩), .int .i64 (i : Int)] w (zan [pgI s d, dkI d]) (fun b : Nat => .tuple #[.slice (some ⟨b, 0, none⟩) 512 512, .int .i64 0]) (fun _ => True) (fun b => [rdI b (pageB s d.D i), pgI (zcn s d.D i) d, dkI d]) := by
 refine zbb [_, _] _ Tryz.func54 rfl rfl hw ha ?_
 obtain ⟨hn, hsecs, hroom, hC, hK⟩ := sok
 simp only [zaa, Nat.reduceAdd]
 refine goA ?_
 refine lPu rfl (fun w1 hw1 => zo8 s d i w1 (za1.of (hw1.item _ (.head _)) (zco s d))) ?_
 rw [show qdx s i = 0 by rw [qdx, if_neg oQ, hdead]; rfl]
 refine goA ?_
 refine zlx (m' := pgL s d ++ [dkI d]) (fun w h => zi2 (m := [dkI d]) h) ?_
 unfold pgL
 refine zao [0, 1, 2, 3, 4, 5] 10 rfl rfl kQ ?_
 refine goE ?_
 refine d_v [9] rfl rfl kQ (fun _ h => goH h) rfl rfl (qbk rfl rfl rfl rfl rfl) ?_
 refine goE ?_
 refine zei kQ ?_
 refine qsq [(0, .pointer (some ⟨s.b, 0, none⟩)), (1, .int .i64 (i : Int)), (27, .agg #[.map (some s.cb), .map (some s.kb)]), (28, .int .i64 (0 : Nat))] (pgL s d ++ [dkI d]) ⟨rfl, rfl, rfl, rfl, trivial⟩ (fun w h => h) ?_
 refine goA ?_
 refine zcp (α := Nat) (fun k => [(0, .pointer (some ⟨s.b, 0, none⟩)), (1, .int .i64 (i : Int)), (27, .agg #[.map (some s.cb), .map (some s.kb)]), (28, .int .i64 k)]) (fun k => k ≤ 2 ∧ (1 ≤ k → s.C.lookup i = none) ∧ (2 ≤ k → s.K.lookup i = none)) (fun k => pgL s d ++ [dkI d]) (fun k => 2 - k) 0 ⟨rfl, rfl, rfl, rfl, trivial⟩ ⟨oQ, oQ, oQ⟩ (fun w h => h) fun k ⟨hk, hk1, hk2⟩ => ?_
 unfold pgL
 by_cases hlt : k < 2
 ·obtain ⟨mb, A, hv, hm, hA, hs1, hs2⟩ : ∃ (mb : Nat) (A : PR), (#[Value.map (some s.cb), .map (some s.kb)] : Array Value)[k]? = some (.map (some mb)) ∧ zd8 .i64 mb (toP A) ∈ pgL s d ++ [dkI d] ∧ A.Ok s.n ∧ (∀ bs, A.lookup i = some bs → pageB s d.D i = bs ∧ zcn s d.D i = s) ∧ (A.lookup i = none → (1 ≤ k + 1 → s.C.lookup i = none) ∧ (2 ≤ k + 1 → s.K.lookup i = none)) := by
   match k, hlt with
   | 0, _ => exact ⟨s.cb, s.C, rfl, by simp [pgL], hC, fun bs hb => by unfold pageB zcn; rw [hb]; exact ⟨rfl, rfl⟩, fun hb => ⟨fun _ => hb, fun h => absurd h oQ⟩⟩
   | 1, _ =>
    have hc := hk1 oQ
    exact ⟨s.kb, s.K, rfl, by simp [pgL], hK, fun bs hb => by unfold pageB zcn; rw [hc, hb]; exact ⟨rfl, rfl⟩, fun hb => ⟨fun _ => hc, fun _ => hb⟩⟩
  refine goA ?_
  refine l_w rfl (zzn rfl rfl rfl rfl rfl hlt hv) ?_
  refine goA ?_
  refine l_w rfl (qhs (q := .i64) (h := i) rfl rfl rfl rfl rfl (okI oQ) hm) ?_
  rw [zsu]
  cases hb : A.lookup i with
  | some bs =>
   obtain ⟨hs3, hs4⟩ := hs1 bs hb
   have hbs : (zaf bs).length = 512 := by rw [zap]; exact (hA _ (zcj hb)).2
   rw [hs3, hs4]
   simp only [cK, eW, iE, pgV]
   refine goA ?_
   refine zal rfl rfl fun b9 hb9 => ?_
   refine zaz rfl (zag (cs' := (zaf bs).toArray) rfl rfl rfl (by rw [bR, hbs]; rfl) (zeo _) (by rw [bR, hbs]; rfl)) fun _ => ?_
   refine goA ?_
   refine l_w rfl (zun (n := 512) rfl rfl rfl rfl) ?_
   refine goA ?_
   exact zb3 (m' := [rdI b9 bs, pgI s d, dkI d]) (fun w' hw' => zpq (qrl hw')) (zdq b9 rfl rfl rfl rfl trivial (.refl _) (zsi _ _ _ _))
  | none =>
   simp only [eR, kG, jT]
   refine goA ?_
   refine zal rfl rfl fun b9 hb9 => ?_
   refine zaz rfl (zag rfl rfl rfl rfl rfl rfl) fun _ => ?_
   refine goA ?_
   obtain ⟨h3, h4⟩ := hs2 hb
   exact zav (k + 1) ⟨rfl, rfl, rfl, rfl, trivial⟩ ⟨hlt, h3, h4⟩ (fun w' hw' => hw'.sub (fO _ _)) oQ
 ·obtain rfl : k = 2 := oQ
  have hc := hk1 oQ
  have hkk := hk2 oQ
  have hpb : pageB s d.D i = zcf d.D (2 + s.g.h.secs + i) := by unfold pageB; rw [hc, hkk]; rfl
  have hps : zcn s d.D i = { s with K := zeu s.K i (zcf d.D (2 + s.g.h.secs + i)) } := by unfold zcn; rw [hc, hkk]; rfl
  rw [hpb, hps]
  have hat : 2 + s.g.h.secs + i < d.D.on.length := oQ
  have hcl := zs5 ok hat
  refine goA ?_
  refine zao [0, 1, 2, 3, 4, 5] 17 rfl rfl kQ ?_
  refine goE ?_
  refine zaw 8 ⟨kQ, dQ⟩ rfl rfl (zfb rfl kQ rfl (fun w1 hw1 => zgu s.bl d s.g w1 (za1.of (hw1.item (lgI s.bl d s.g) sQ) (zac _ _ _)))) (fun _ _ h => goH h) fun _ => ?_
  refine goE ?_
  refine zaw 10 ⟨kQ, dQ⟩ rfl rfl (zfb rfl kQ rfl (fun w1 hw1 => zfy s.g.h.secs i oQ oQ w1)) (fun _ _ h => goH h) fun _ => ?_
  refine goE ?_
  refine qq7 11 ⟨kQ, dQ⟩ rfl rfl rfl kQ rfl (fun _ h => h) (fun w1 hw1 => zmz d ok hlive (2 + s.g.h.secs + i) hat hwl w1 (za1.of (hw1.item (dkI d) sQ) (zad _))) fun x hx => ?_
  refine goE ?_
  refine zei kQ ?_
  generalize zcf d.D (2 + s.g.h.secs + i) = bs at hcl ⊢
  refine goA ?_
  refine zez (m' := [pgI s d, rdI x bs, dkI d]) (fun w' hw' => (zpq hw').pick [1, 0, 2] rfl rfl) ?_
  refine lCu [pgI s d] rfl (zc2 s d) (fun w1 hw1 hh1 ha1 => qdi s d 0 w1 hh1) fun ⟨_, _⟩ => ?_
  rw [show ({ s with dead := s.dead || decide ((0 : Nat) = 4) } : Pg) = s by rw [hdead]; cases s; simp only at hdead; subst hdead; rfl]
  refine goA ?_
  have hbl : (zaf bs).length = 512 := by rw [zap, hcl]
  refine zlx (m' := pgL s d ++ [rdI x bs, dkI d]) (fun w h => zi2 (m := [rdI x bs, dkI d]) h) ?_
  unfold pgL
  refine zde [2, 0, 1, 3, 4, 5, 6] rfl rfl ?_
  refine zao [1, 2, 3, 4, 5, 6] 9 rfl rfl kQ ?_
  refine goE ?_
  refine goV rfl rfl (zw3 rfl rfl dQ) ?_
  refine goE ?_
  refine goV rfl rfl (zft (xs := zaf bs) (c := (zaf bs).toArray) rfl (by rw [hbl]; rfl) (fun w' hw' => (hw'.item (rdI x bs) sQ).1.1) rfl) ?_
  refine zaw 8 ⟨kQ, dQ⟩ rfl rfl (zjp (h := i) (v := pgV bs) rfl rfl rfl rfl rfl rfl (okI oQ)) (fun _ _ h => goH h) fun _ => ?_
  refine zei kQ ?_
  refine goA ?_
  rw [← zqk]
  refine zb3 (m' := [rdI x bs, pgI { s with K := zeu s.K i bs } d, dkI d]) (fun w' hw' => ?_) (zdq x rfl rfl rfl rfl trivial (.refl _) (zsi _ _ _ _))
  exact zpq (s := { s with K := zeu s.K i bs }) (m := [dkI d]) (hw'.pick [5, 1, 2, 0, 3, 4, 6] rfl rfl)
def bmB (n : Nat) (S : Nat → Bool) : Bys := (List.range 512).map fun j => UInt8.ofNat (byte (zdo S n) j)
theorem zoo (n : Nat) (S : Nat → Bool) : (bmB n S).length = 512 := by simp [bmB]
theorem zon (n : Nat) (S : Nat → Bool) : zgz S n = (zaf (bmB n S)).toArray := by
 unfold zgz zaf bmB
 rw [dR]
 congr 1
 refine dD fun j _ => ?_
 show Value.int .u8 _ = Value.int .u8 _
 rw [UInt8.toNat_ofNat', aY (qen _ _)]
theorem qop {n : Nat} {S : Nat → Bool} {j : Nat} (hj : j < 512) : (zaf (bmB n S))[j]? = some (.int .u8 (byte (zdo S n) j : Nat)) := by
 have := zho S n hj
 rw [zon, eP] at this
 exact this
def znw (n : Nat) (S : Nat → Bool) : Prop := ∀ j, n ≤ j → S j = false
theorem qb3 {n : Nat} {S : Nat → Bool} (hn : n ≤ 1024) (hc : znw n S) : zdo (zg0 fun j => byte (zdo S n) j) 4096 = S := funext fun i => by
 unfold zdo zg0
 by_cases hi : i < 4096
 ·have := zwx (zdo S n) (i / 8) (i % 8) (eM _ dQ)
  simp only [hi, decide_true, fG]
  unfold zdo at this
  rw [this, show 8 * (i / 8) + i % 8 = i by omega]
  by_cases h : i < n
  ·simp [h]
  ·simp [h, hc i oQ]
 ·simp [hi, hc i oQ]
theorem zui {n k : Nat} (S : Nat → Bool) (u : Bool) (hk : k < n) : qd2 n S (k : Int) u = upd S k u := by
 unfold qd2 onB
 rw [decide_eq_true (show (0 : Int) ≤ (k : Int) by omega), decide_eq_true (show (k : Int) < (n : Int) by omega)]
 simp only [Bool.and_self, cond_true, bT]
theorem zsj (s : Pg) (d : Dk) (n : Nat) (S : Nat → Bool) (i : Int) (u : Bool) (hn : n ≤ 1024) (w : World) (hw : ∀ it ∈ [pgI s d], za1 it w) :
  Ct Tryz.prog 32 #[.pointer (some ⟨s.b, 0, none⟩), .agg (zhn n S), .int .i64 i, .bool u] w (zan [pgI s d]) (fun _ : Unit => .tuple #[]) (fun _ => True) (fun _ => [pgI { s with C := zeu s.C 0 (bmB n (qd2 n S i u)) } d]) := by
 refine zbb [_, _, _, _] _ Tryz.func32 rfl rfl hw (.cons (fun _ h => nomatch h) .nil) ?_
 simp only [zaa, Nat.reduceAdd]
 refine zlx (m' := pgL s d) (fun w h => zi2 (m := []) h) ?_
 unfold pgL
 refine goA ?_
 refine zbt rfl rfl fun b5 hb5 => ?_
 refine goA ?_
 refine zde [5, 0, 1, 2, 3, 4] rfl rfl ?_
 refine zao [1, 2, 3, 4, 5] 12 rfl rfl kQ ?_
 refine goE ?_
 refine zaw 7 ⟨kQ, dQ⟩ rfl rfl (zfb rfl kQ rfl (fun w1 hw1 => zmq n S i u hn w1)) (fun _ _ h => goH h) fun _ => ?_
 refine goE ?_
 refine zaw 8 ⟨kQ, dQ⟩ rfl rfl (qdy rfl kQ rfl (fun w1 hw1 => zne n (qd2 n S i u) hn w1)) (fun _ _ h => goH h) fun ⟨x, hx⟩ => ?_
 rw [zon]
 have hbl : (zaf (bmB n (qd2 n S i u))).length = 512 := by rw [zap, zoo]
 generalize bmB n (qd2 n S i u) = bs at hbl ⊢
 simp only [aE, aI]
 refine goE ?_
 refine goV rfl rfl (zw3 rfl rfl dQ) ?_
 refine zaw 10 ⟨kQ, dQ⟩ rfl rfl (qf9 rfl (zft (xs := zaf bs) (c := (zaf bs).toArray) rfl (by rw [hbl]; rfl) (fun w' hw' => za7 (hw'.get (b := x) (.head _))) rfl)) (fun _ _ h => goH h) fun _ => ?_
 refine zaw 11 ⟨kQ, dQ⟩ rfl rfl (zai (zce _ _ _) (zjp (h := 0) (v := pgV bs) rfl rfl rfl rfl rfl rfl (okI dQ))) (fun _ _ h => goH h) fun _ => ?_
 refine zei kQ ?_
 refine goA ?_
 rw [← zqk]
 refine zb3 (m' := [pgI { s with C := zeu s.C 0 bs } d]) (fun w' hw' => ?_) (zl6 () rfl rfl trivial (.refl _) (zc2 _ _))
 exact zgc (s := { s with C := zeu s.C 0 bs }) (m := []) (hw'.pick [3, 4, 5, 6, 0] rfl rfl)
theorem qje (b n : Nat) (S : Nat → Bool) (h1 : 1 ≤ n) (hn : n ≤ 1024) (hc : znw n S) (c : Nat) (w : World) (h : (rdI b (bmB n S)).prop w) : Pu Tryz.prog 55 #[.slice (some ⟨b, 0, none⟩) 512 c, .int .i64 (n : Int)] w (.tuple #[.agg (zhn n S), .int .i64 0]) := by
 have hb := qb3 hn hc
 have := qjf b 0 c (fun j => byte (zdo S n) j) n h1 hn w (fun i hi => h.1 i _ (qop hi)) (fun j hj hb1 => by
  have h2 := congrFun hb j
  rw [show zdo (zg0 fun j => byte (zdo S n) j) 4096 j = (decide (j < 4096) && zg0 (fun j => byte (zdo S n) j) j) from rfl, hb1, decide_eq_true hj] at h2
  rcases gK j n with h | h
  ·exact h
  ·rw [hc j h] at h2; cases h2)
 rw [hb] at this
 exact this
theorem zg7 (s : Pg) (d : Dk) (ok : d.D.Ok) (hlive : d.D.dead = false) (hwl : d.D.wait.length ≤ 1000000000) (hdead : s.dead = false) (sok : s.Ok d.D) (h1 : 1 ≤ s.n) (S : Nat → Bool) (hS : pageB s d.D 0 = bmB s.n S) (hc : znw s.n S) (h0 : S 0 = true) (w : World) (hw : ∀ it ∈ [pgI s d, dkI d], za1 it w) (ha : [pgI s d, dkI d].Pairwise Eng.Item.Apart) :
  Ct Tryz.prog 30 #[.pointer (some ⟨s.b, 0, none⟩)] w (zan [pgI s d, dkI d]) (fun _ : Unit => .tuple #[.agg (zhn s.n S), .int .i64 0]) (fun _ => True) (fun _ => [pgI (zcn s d.D 0) d, dkI d]) := by
 refine zbb [_] _ Tryz.func30 rfl rfl hw ha ?_
 simp only [zaa]
 refine goA ?_
 refine zal rfl rfl fun b2 hb2 => ?_
 refine goA ?_
 refine za0 [1, 2, 0] rfl rfl ?_
 refine lCu [pgI s d, dkI d] rfl (zdc s d) (fun w1 hw1 hh1 ha1 => znj s d ok hlive hwl hdead sok 0 h1 w1 hh1 ha1) fun ⟨x, _⟩ => ?_
 rw [hS]
 have hsn : (zcn s d.D 0).n = s.n ∧ (zcn s d.D 0).b = s.b := by unfold zcn; split <;> exact ⟨rfl, rfl⟩
 generalize zcn s d.D 0 = s1 at hsn ⊢
 obtain ⟨hsn, hsb⟩ := hsn
 rw [← hsb]
 dsimp only
 refine goA ?_
 refine l_w rfl (zay (v := .int .i64 (s.n : Int)) rfl rfl (fun w' hw' => zq8 (za1.of (hw'.item (pgI s1 d) sQ) (zco _ _)) 2 (by rw [← hsn]; rfl))) ?_
 refine goA ?_
 refine lPu rfl (fun w1 hw1 => qje x s.n S h1 sok.n hc 512 w1 (hw1.item (rdI x (bmB s.n S)) sQ).1) ?_
 refine goA ?_
 refine zal rfl rfl fun b6 hb6 => ?_
 refine zaz rfl (zag (cs' := zhn s.n S) rfl rfl rfl (by rw [za3]; rfl) (zef _ _) (by rw [za3]; rfl)) fun _ => ?_
 refine goA ?_
 refine lPu rfl (fun w1 _ => zry s.n S 0 sok.n w1) ?_
 rw [show qme s.n S 0 = true by unfold qme; rw [show (0 : Int).toNat = 0 from rfl, h0, Bool.or_true]]
 refine goA ?_
 refine zaz rfl (zai (zg1 _ _ _ _ _ _) (zag (cs' := zhn s.n S) rfl rfl rfl (by rw [za3]; rfl) (zef _ _) (by rw [za3]; rfl))) fun _ => ?_
 refine goA ?_
 exact zdq () rfl ⟨_, rfl, zar (by rw [za3]; rfl) (.head _)⟩ rfl rfl trivial (.cons _ (.cons _ (.cons _ (.refl _)))) (zdc _ _)
theorem zt8 (s : Pg) (d : Dk) (ok : d.D.Ok) (hlive : d.D.dead = false) (hwl : d.D.wait.length ≤ 1000000000) (hdead : s.dead = false) (sok : s.Ok d.D) (h1 : 1 ≤ s.n) (S : Nat → Bool) (hS : pageB s d.D 0 = bmB s.n S) (hc : znw s.n S) (h0 : S 0 = true) (w : World) (hw : ∀ it ∈ [pgI s d, dkI d], za1 it w) (ha : [pgI s d, dkI d].Pairwise Eng.Item.Apart) :
  Ct Tryz.prog 18 #[.pointer (some ⟨s.b, 0, none⟩)] w (zan [pgI s d, dkI d]) (fun _ : Unit => .int .i64 (cnt S 1024 : Nat)) (fun _ => True) (fun _ => [pgI (zcn s d.D 0) d, dkI d]) := by
 refine zbb [_] _ Tryz.func18 rfl rfl hw ha ?_
 simp only [zaa]
 refine goA ?_
 refine lCu [pgI s d, dkI d] rfl (zdc s d) (fun w1 hw1 hh1 ha1 => zg7 s d ok hlive hwl hdead sok h1 S hS hc h0 w1 hh1 ha1) fun ⟨_, _⟩ => ?_
 refine goA ?_
 refine zal rfl rfl fun b6 hb6 => ?_
 refine zaz rfl (zag (cs' := zhn s.n S) rfl rfl rfl (by rw [za3]; rfl) (zef _ _) (by rw [za3]; rfl)) fun _ => ?_
 refine goA ?_
 refine lPu rfl (fun w1 _ => zys s.n S w1) ?_
 refine goA ?_
 exact zbs () rfl rfl rfl trivial (.cons _ (.refl _)) (zdc _ _)
def tzI : Eng.Item := ⟨fun k => k = 0, fun w => qb1 w⟩
theorem zjz (ro : Nat → Prop) : tzI.Stable ro := fun _ _ h hp => ⟨(h _ (.inr rfl)).trans hp.obj⟩
def qcd (s : Pg) (D : Dsk) (S : Nat → Bool) (i : Nat) (u : Bool) : Pg := { zcn s D 0 with C := zeu (zcn s D 0).C 0 (bmB s.n (upd S i u)) }
theorem zwg (s : Pg) (d : Dk) (ok : d.D.Ok) (hlive : d.D.dead = false) (hwl : d.D.wait.length ≤ 1000000000) (hdead : s.dead = false) (sok : s.Ok d.D) (h1 : 1 ≤ s.n) (S : Nat → Bool) (hS : pageB s d.D 0 = bmB s.n S) (hc : znw s.n S) (h0 : S 0 = true) (i : Nat) (hi : i < s.n) (w : World) (hw : ∀ it ∈ [pgI s d, dkI d], za1 it w) (ha : [pgI s d, dkI d].Pairwise Eng.Item.Apart) :
  Ct Tryz.prog 68 #[.pointer (some ⟨s.b, 0, none⟩), .int .i64 (i : Int)] w (zan [pgI s d, dkI d]) (fun _ : Unit => .int .i64 (if i = 0 ∨ S i = false then 2 else 0 : Nat)) (fun _ => True) (fun _ => [pgI (if i = 0 ∨ S i = false then zcn s d.D 0 else qcd s d.D S i false) d, dkI d]) := by
 refine zbb [_, _] _ Tryz.func68 rfl rfl hw ha ?_
 simp only [zaa, Nat.reduceAdd]
 refine goA ?_
 refine lPu rfl (fun w1 hw1 => zo8 s d i w1 (za1.of (hw1.item _ (.head _)) (zco s d))) ?_
 rw [show qdx s i = 0 by rw [qdx, if_neg oQ, hdead]; rfl]
 refine goA ?_
 refine lCu [pgI s d, dkI d] rfl (zdc s d) (fun w1 hw1 hh1 ha1 => zg7 s d ok hlive hwl hdead sok h1 S hS hc h0 w1 hh1 ha1) fun ⟨_, _⟩ => ?_
 have hfr : qcd s d.D S i false = { zcn s d.D 0 with C := zeu (zcn s d.D 0).C 0 (bmB s.n (upd S i false)) } := rfl
 rw [hfr]
 have hsn : (zcn s d.D 0).n = s.n ∧ (zcn s d.D 0).b = s.b := by unfold zcn; split <;> exact ⟨rfl, rfl⟩
 generalize zcn s d.D 0 = s1 at hsn ⊢
 obtain ⟨hsn, hsb⟩ := hsn
 rw [← hsb]
 refine goA ?_
 refine zal rfl rfl fun b6 hb6 => ?_
 refine zaz rfl (zag (cs' := zhn s.n S) rfl rfl rfl (by rw [za3]; rfl) (zef _ _) (by rw [za3]; rfl)) fun _ => ?_
 refine goA ?_
 by_cases hi0 : i = 0
 ·subst hi0
  rw [if_pos (.inl rfl), if_pos (.inl rfl)]
  refine goA ?_
  exact zbs () rfl rfl rfl trivial (.cons _ (.refl _)) (zdc _ _)
 ·refine goA ?_
  refine lPu rfl (fun w1 _ => zry s.n S i sok.n w1) ?_
  rw [show qme s.n S i = S i by unfold qme onB; simp; omega]
  cases hSi : S i with
  | false =>
   rw [if_pos (.inr rfl), if_pos (.inr rfl)]
   refine goA ?_
   exact zbs () rfl rfl rfl trivial (.cons _ (.refl _)) (zdc _ _)
  | true =>
   rw [if_neg (by simp [hi0]), if_neg (by simp [hi0])]
   refine goA ?_
   refine za0 [1, 0, 2] rfl rfl ?_
   refine lCu [pgI s1 d] rfl (zc2 s1 d) (fun w1 hw1 hh1 ha1 => zsj s1 d s.n S i false sok.n w1 hh1) fun ⟨_, _⟩ => ?_
   rw [zui S false hi]
   refine goA ?_
   exact zbs () rfl rfl rfl trivial (.cons_cons _ (.cons _ (.refl _))) (zdc _ _)
def zdr : Bys := List.replicate 512 0
theorem zjr (s : Pg) (d : Dk) : ∀ it ∈ [pgI s d, dkI d, tzI], it.Stable none' := by
 intro it hm
 rcases hm with _ | ⟨_, _ | ⟨_, _ | ⟨_, hm⟩⟩⟩
 ·exact zco s d
 ·exact zad _
 ·exact zjz _
 ·exact nomatch hm
def zrg (s : Pg) (D : Dsk) (S : Nat → Bool) (a : Nat) : Pg := { zcn s D 0 with C := zeu (zeu (zcn s D 0).C 0 (bmB s.n (upd S a true))) a zdr }
theorem zwf (s : Pg) (d : Dk) (ok : d.D.Ok) (hlive : d.D.dead = false) (hwl : d.D.wait.length ≤ 1000000000) (hdead : s.dead = false) (sok : s.Ok d.D) (S : Nat → Bool) (hS : pageB s d.D 0 = bmB s.n S) (hc : znw s.n S) (h0 : S 0 = true) (a : Nat) (han : a < s.n) (hSa : S a = false) (hl : ∀ j, j < a → S j = true) (w : World) (hw : ∀ it ∈ [pgI s d, dkI d, tzI], za1 it w) (ha : [pgI s d, dkI d, tzI].Pairwise Eng.Item.Apart) :
  Ct Tryz.prog 11 #[.pointer (some ⟨s.b, 0, none⟩)] w (zan [pgI s d, dkI d, tzI]) (fun _ : Unit => .tuple #[.int .i64 (a : Int), .int .i64 0]) (fun _ => True) (fun _ => [pgI (zrg s d.D S a) d, dkI d, tzI]) := by
 refine zbb [_] _ Tryz.func11 rfl rfl hw ha ?_
 simp only [zaa]
 refine goA ?_
 refine lCu [pgI s d, dkI d] rfl (zdc s d) (fun w1 hw1 hh1 ha1 => zg7 s d ok hlive hwl hdead sok oQ S hS hc h0 w1 hh1 ha1) fun ⟨_, _⟩ => ?_
 have hfr : zrg s d.D S a = { zcn s d.D 0 with C := zeu (zeu (zcn s d.D 0).C 0 (bmB s.n (upd S a true))) a zdr } := rfl
 rw [hfr]
 have hsn : (zcn s d.D 0).n = s.n ∧ (zcn s d.D 0).b = s.b := by unfold zcn; split <;> exact ⟨rfl, rfl⟩
 generalize zcn s d.D 0 = s1 at hsn ⊢
 obtain ⟨hsn, hsb⟩ := hsn
 have hn := sok.n
 rw [← hsb]
 refine goA ?_
 refine zal rfl rfl fun b6 hb6 => ?_
 refine zaz rfl (zag (cs' := zhn s.n S) rfl rfl rfl (by rw [za3]; rfl) (zef _ _) (by rw [za3]; rfl)) fun _ => ?_
 refine goA ?_
 refine lPu rfl (fun w1 hw1 => qct s.n S a sok.n han hSa hl w1 (hw1.item tzI sQ).1) ?_
 refine goA ?_
 refine za0 [1, 0, 2, 3] rfl rfl ?_
 refine lCu [pgI s1 d] rfl (zc2 s1 d) (fun w1 hw1 hh1 ha1 => zsj s1 d s.n S a true sok.n w1 hh1) fun ⟨_, _⟩ => ?_
 rw [zui S true han]
 refine goA ?_
 refine zez (m' := pgL { s1 with C := zeu s1.C 0 (bmB s.n (upd S a true)) } d ++ [pt b6 (.cells (zhn s.n S) 82 (0, 0)), dkI d, tzI]) (fun w h => zi2 (m := [pt b6 (.cells (zhn s.n S) 82 (0, 0)), dkI d, tzI]) h) ?_
 unfold pgL
 refine goA ?_
 refine l_w rfl (qbk rfl rfl rfl rfl rfl) ?_
 refine zcr 32 _ (pgV zdr) rfl (by rfl) ?_
 refine zcr 30 _ (.map (some s1.cb)) rfl rfl ?_
 refine za0 [4, 0, 1, 2, 3, 5, 6, 7] rfl rfl ?_
 refine zaz rfl (zjp (h := a) (v := pgV zdr) rfl rfl rfl rfl rfl rfl (okI oQ)) fun _ => ?_
 simp only [← zqk]
 refine goA ?_
 refine zb3 (m' := [pgI { s1 with C := zeu (zeu s1.C 0 (bmB s.n (upd S a true))) a zdr } d, dkI d, tzI]) (fun w' hw' => ?_) (zdq () rfl rfl rfl rfl trivial (.refl _) (zjr _ _))
 exact zgc (s := { s1 with C := zeu (zeu s1.C 0 (bmB s.n (upd S a true))) a zdr }) (m := [dkI d, tzI]) (hw'.pick [1, 2, 3, 4, 0, 6, 7] rfl rfl)
end Go.Proofs.YtkkfifhaobjicaaGreatDoor
namespace Go.Proofs.YtkkfifhaobjicaaGreatDoor
open Go.Shelf
open Go.Eng
def qhb : Go.Shelf.Ren := ⟨fun | 5 => 165 | 8 => 186 | 7 => 185 | 19 => 203 | 20 => 204 | 10 => 194 | 11 => 195 | 12 => 196 | 13 => 197 | 14 => 198 | 15 => 199 | 16 => 200 | 17 => 201 | 18 => 202 | 30 => 206 | 31 => 207 | 32 => 208 | 33 => 209 | 34 => 210 | 35 => 211 | 40 => 212 | n => n, fun | 23 => 99 | 25 => 3 | 3 => 3 | 32 => 122 | 22 => 99 | 0 => 0 | 44 => 249 | 46 => 79 | 4 => 4 | 36 => 268 | 35 => 267 | 41 => 85 | 5 => 5 | 9 => 9 | 53 => 276 | 57 => 280 | 63 => 282 | 64 => 283 | n => n, fun | n => n⟩
theorem qp0 : Go.Proofs.SlLaysM.n5 Tryz.prog qhb := {
 mixed := by kernel_rfl
 f5 := ⟨Tryz.f165.name, dQ, Tryz.func165.trans (congrArg some kQ)⟩
 f7 := ⟨Tryz.f185.name, dQ, Tryz.func185.trans (congrArg some kQ)⟩
 f8 := Tryz.func186.trans (congrArg some kQ)
 f10 := ⟨Tryz.f194.name, dQ, Tryz.func194.trans (congrArg some kQ)⟩
 f11 := ⟨Tryz.f195.name, dQ, Tryz.func195.trans (congrArg some kQ)⟩
 f12 := ⟨Tryz.f196.name, dQ, Tryz.func196.trans (congrArg some kQ)⟩
 f13 := ⟨Tryz.f197.name, dQ, Tryz.func197.trans (congrArg some kQ)⟩
 f14 := ⟨Tryz.f198.name, dQ, Tryz.func198.trans (congrArg some kQ)⟩
 f15 := ⟨Tryz.f199.name, dQ, Tryz.func199.trans (congrArg some kQ)⟩
 f16 := ⟨Tryz.f200.name, dQ, Tryz.func200.trans (congrArg some kQ)⟩
 f17 := ⟨Tryz.f201.name, dQ, Tryz.func201.trans (congrArg some kQ)⟩
 f18 := ⟨Tryz.f202.name, dQ, Tryz.func202.trans (congrArg some kQ)⟩
 f19 := Tryz.func203.trans (congrArg some kQ)
 f20 := Tryz.func204.trans (congrArg some kQ)
 f30 := ⟨Tryz.f206.name, dQ, Tryz.func206.trans (congrArg some kQ)⟩
 f31 := Tryz.func207.trans (congrArg some kQ)
 f32 := Tryz.func208.trans (congrArg some kQ)
 f33 := ⟨Tryz.f209.name, dQ, Tryz.func209.trans (congrArg some kQ)⟩
 f34 := ⟨Tryz.f210.name, dQ, Tryz.func210.trans (congrArg some kQ)⟩
 f35 := ⟨Tryz.f211.name, dQ, Tryz.func211.trans (congrArg some kQ)⟩
 f40 := ⟨Tryz.f212.name, dQ, Tryz.func212.trans (congrArg some kQ)⟩
 t0 := Tryz.underlying0
 a0 := Tryz.isAgg0
 z0 := Tryz.sizeOf0
 v0 := Tryz.zeroValue0
 t3 := Tryz.underlying3
 a3 := Tryz.isAgg3
 z3 := Tryz.sizeOf3
 v3 := Tryz.zeroValue3
 t4 := Tryz.underlying4
 a4 := Tryz.isAgg4
 z4 := Tryz.sizeOf4
 v4 := Tryz.zeroValue4
 t5 := Tryz.underlying5
 a5 := Tryz.isAgg5
 z5 := Tryz.sizeOf5
 v5 := Tryz.zeroValue5
 t9 := Tryz.underlying9
 a9 := Tryz.isAgg9
 z9 := Tryz.sizeOf9
 v9 := Tryz.zeroValue9
 t22 := Tryz.underlying99
 a22 := Tryz.isAgg99
 z22 := Tryz.sizeOf99
 v22 := Tryz.zeroValue99
 t23 := Tryz.underlying99
 a23 := Tryz.isAgg99
 z23 := Tryz.sizeOf99
 v23 := Tryz.zeroValue99
 t25 := Tryz.underlying3
 a25 := Tryz.isAgg3
 z25 := Tryz.sizeOf3
 v25 := Tryz.zeroValue3
 t32 := Tryz.underlying122
 a32 := Tryz.isAgg122
 z32 := Tryz.sizeOf122
 v32 := Tryz.zeroValue122
 t35 := Tryz.underlying267
 a35 := Tryz.isAgg267
 z35 := Tryz.sizeOf267
 v35 := Tryz.zeroValue267
 t36 := Tryz.underlying268
 a36 := Tryz.isAgg268
 z36 := Tryz.sizeOf268
 v36 := Tryz.zeroValue268
 t41 := Tryz.underlying85
 a41 := Tryz.isAgg85
 z41 := Tryz.sizeOf85
 v41 := Tryz.zeroValue85
 t44 := Tryz.underlying249
 a44 := Tryz.isAgg249
 z44 := Tryz.sizeOf249
 v44 := Tryz.zeroValue249
 t46 := Tryz.underlying79
 a46 := Tryz.isAgg79
 z46 := Tryz.sizeOf79
 v46 := Tryz.zeroValue79
 t53 := Tryz.underlying276
 a53 := Tryz.isAgg276
 z53 := Tryz.sizeOf276
 v53 := Tryz.zeroValue276
 t57 := Tryz.underlying280
 a57 := Tryz.isAgg280
 z57 := Tryz.sizeOf280
 v57 := Tryz.zeroValue280
 t63 := Tryz.underlying282
 a63 := Tryz.isAgg282
 z63 := Tryz.sizeOf282
 v63 := Tryz.zeroValue282
 t64 := Tryz.underlying283
 a64 := Tryz.isAgg283
 z64 := Tryz.sizeOf283
 v64 := Tryz.zeroValue283 }
open Go.RowKit Go.Eng
set_option maxRecDepth 100000
set_option maxHeartbeats 40000000
def zlv (L : List Nat) : List Nat := L.mergeSort fun x y => decide (x ≤ y)
theorem qjc (L : List Nat) : (L.map fun n : Nat => (n : Int)).mergeSort (fun x y => decide (x ≤ y)) = (zlv L).map fun n : Nat => (n : Int) := by
 unfold zlv
 refine (List.map_mergeSort (f := fun n : Nat => (n : Int)) fun a _ b _ => ?_).symm
 simp
theorem zyk (o : Option (Nat × Nat)) (L : List Nat) (hL : L.length ≤ 1000000000) (w : World) (hw : ∀ it ∈ [own 3 1 o L.length (zfw L)], za1 it w) :
  Ct Tryz.prog 165 #[slV o L.length] w (zan [own 3 1 o L.length (zfw L)]) (fun _ : Unit => .tuple #[]) (fun _ => True) (fun _ => [own 3 1 o L.length (zfw (zlv L))]) := by
 have hin := hw _ (.head _)
 obtain ⟨⟨hl, hp⟩, -, hfo⟩ := hin
 have hlen : (zlv L).length = L.length := List.length_mergeSort L
 have hiv : zfw L = (L.map fun n : Nat => (n : Int)).map (Value.int .i64) := by simp [zfw, jV]
 have hivs : zfw (zlv L) = ((zlv L).map fun n : Nat => (n : Int)).map (Value.int .i64) := by simp [zfw, jV]
 have hst : ∀ o : Option (Nat × Nat), ∀ it ∈ [own 3 1 o L.length (zfw (zlv L))], it.Stable none' := by simp [zab]
 rcases o with _ | ⟨b, c⟩
 ·have h0 : L.length = 0 := hp
  obtain rfl : L = [] := bM h0
  have h1 := AnyM.slices_Sort_int_none qp0 none 0 w
  unfold Ct
  refine Calls.mono h1 ?_
  rintro e w' ⟨rfl, rfl⟩
  refine ⟨(), rfl, trivial, .refl _ _, fun it hm => ?_, .cons (fun _ h => nomatch h) .nil⟩
  obtain rfl : it = own 3 1 none 0 (zfw (zlv [])) := by simpa using hm
  exact ⟨⟨by rw [hivs]; simp [zlv], rfl⟩, zab _ _ _ _ _ _, fun k hk => ⟨hfo k hk, fun _ => ⟨_, .head _, hk⟩⟩⟩
 ·obtain ⟨h1, h2, cur, hb, hc, ht⟩ := hp
  rw [bK] at ht hc
  have hbl : b < w.heap.size := (bC.1 hb).1
  have hH : Go.Sort.Holds (Value.int .i64) w b 0 (L.map fun n : Nat => (n : Int)).toArray := holds_of_blockI hb (by rw [aG, ht, hiv])
  have h3 := AnyM.slices_Sort_int qp0 b 0 c (L.map fun n : Nat => (n : Int)) w hH hbl (by rw [aG]; omega)
  rw [aG, qjc] at h3
  unfold Ct
  refine Calls.mono h3 ?_
  rintro e w' ⟨rfl, n, os, rfl⟩
  obtain ⟨g1, g2, g3, g4, g5⟩ := grownBy_sortedI (w := w) (g := b) (n := n) (os := os) ((zlv L).map fun n : Nat => (n : Int)).toArray
  have hb' := heap_sortedI (n := n) (os := os) ((zlv L).map fun n : Nat => (n : Int)).toArray hb
  refine ⟨(), rfl, trivial, ⟨g1, g2, g3, g4, fun k hk hF => g5 k hk (fun e => hF ⟨_, .head _, ⟨c, by cases e; rfl⟩⟩)⟩, fun it hm => ?_, .cons (fun _ h => nomatch h) .nil⟩
  obtain rfl : it = own 3 1 (some (b, c)) L.length (zfw (zlv L)) := by simpa using hm
  refine ⟨⟨by rw [← hlen]; simp [zfw], h1, h2, _, hb', by simp [Go.Sort.putCells, hc], ?_⟩, zab _ _ _ _ _ _, fun k hk => ⟨bG (hfo k hk) g4, fun _ => ⟨_, .head _, hk⟩⟩⟩
  have := take_putCellsI cur ((zlv L).map fun n : Nat => (n : Int)) (by rw [aG, hlen]; omega)
  rw [aG, hlen] at this
  rw [bK, this, hivs]
theorem zlj {α : Type} [DecidableEq α] : ∀ {l L : List α}, l.Nodup → (∀ x ∈ l, x ∈ L) → l.length ≤ L.length
 | [], _, _, _ => aV _
 | x :: l, L, hn, h => by
  have hx := h x (.head _)
  have hn' := cS.1 hn
  have := zlj (l := l) (L := L.erase x) hn'.2 fun y hy => (List.mem_erase_of_ne (fun e : y = x => hn'.1 (by rw [← e]; exact hy))).2 (h y (.tail _ hy))
  rw [List.length_erase_of_mem hx] at this
  have := fN hx
  rw [aZ]
  omega
theorem qhc {L L' : List Nat} (h : L.Perm L') : zlv L = zlv L' := by
 unfold zlv
 have tr : ∀ a b c : Nat, decide (a ≤ b) = true → decide (b ≤ c) = true → decide (a ≤ c) = true := fun a b c h1 h2 => by simp only [decide_eq_true_eq] at *; omega
 have to : ∀ a b : Nat, (decide (a ≤ b) || decide (b ≤ a)) = true := fun a b => by simp only [gM, decide_eq_true_eq]; omega
 refine List.Perm.eq_of_pairwise (le := fun a b => decide (a ≤ b) = true) (fun a b _ _ h1 h2 => ?_) (List.pairwise_mergeSort tr to L) (List.pairwise_mergeSort tr to L') (((List.mergeSort_perm L _).trans h).trans (List.mergeSort_perm L' _).symm)
 simp only [decide_eq_true_eq] at h1 h2
 omega
theorem zn4 (x b : Nat) (A : zch) (hA : A.length ≤ 1000000000) (w : World) (hw : ∀ it ∈ kyI x b A, za1 it w) (ha : (kyI x b A).Pairwise Eng.Item.Apart) :
  Ct Tryz.prog 135 #[kyV x] w (zan (kyI x b A)) (fun o : Option (Nat × Nat) => slV o A.length) (fun _ => True) (fun o => [own 3 1 o A.length (zfw (zlv (zo4 A))), zd8 .i64 b A]) := by
 refine zbb [_] _ Tryz.func135 rfl rfl hw ha ?_
 simp only [zaa]
 unfold kyV
 refine goA ?_
 have hmo : ∀ it ∈ [zd8 .i64 b A], it.Stable none' := by simp [za6]
 have hkl : (zo4 A).length = A.length := by simp [zo4]
 refine zj8 (m' := kyI x b A ++ []) (by rw [bA]) ?_
 refine zgt rfl (zg5 (pre := kyI x b A) (m := []) rfl kQ rfl (zmk x b A) (fun w1 hw1 hh1 ha1 => zq3 (f := 166) (cs := [.pointer (some ⟨x, 0, none⟩)]) kQ (qfq x b A) (zmk x b A) hmo (fun k y h => by
  have h1 : (k ++ [y]).length ≤ (zo4 A).length := zlj h.1 h.2
  rw [aA, hkl] at h1
  simp at h1
  omega) w1 hh1 ha1)) fun ⟨⟨o, out⟩, hS⟩ => ?_
 dsimp only at hS ⊢
 have hol : out.length = A.length := by rw [hS.length_eq, hkl]
 have hso : zlv out = zlv (zo4 A) := qhc hS
 refine goA ?_
 refine lCu [own 3 1 o out.length (zfw out)] rfl (by simp [zab]) (fun w1 hw1 hh1 ha1 => zyk o out oQ w1 hh1) fun ⟨_, _⟩ => ?_
 rw [hso, hol]
 refine goA ?_
 exact zbs o rfl rfl rfl trivial (.cons_cons _ (.cons_cons _ (.refl _))) (by simp [zab, za6])
end Go.Proofs.YtkkfifhaobjicaaGreatDoor
namespace Go.Proofs.YtkkfifhaobjicaaGreatDoor
open Go.RowKit Go.Eng Go.Eng.Bm
set_option maxRecDepth 100000
set_option maxHeartbeats 40000000
theorem qmv {s : Pg} {d d' : Dk} (h : d'.b = d.b) : pgI s d' = pgI s d := by unfold pgI pgL pgC lgI pgA lgA; rw [h]
def zdy (A : PR) : PR := (zlv (A.map (·.1))).map fun i => (i, (A.lookup i).getD [])
def wsP (secs : Nat) (A : PR) : List (Nat × Bys) := (zdy A).map fun p => (2 + secs + p.1, p.2)
theorem zof (L : List Nat) : (zlv L).length = L.length := List.length_mergeSort L
theorem zjx {L : List Nat} {x : Nat} : x ∈ zlv L ↔ x ∈ L := List.mem_mergeSort
theorem zlf {A : PR} {i : Nat} (h : i ∈ A.map (·.1)) : ∃ b, A.lookup i = some b := by
 obtain ⟨p, hp, rfl⟩ := aT.1 h
 cases hl : A.lookup p.1 with
 | some b => exact ⟨b, rfl⟩
 | none =>
  have : ∀ B : PR, p ∈ B → B.lookup p.1 ≠ none := by
   intro B
   induction B with
   | nil => intro h; cases h
   | cons q B ih =>
    intro h hn
    rw [cF] at hn
    by_cases e : p.1 = q.1
    ·rw [e] at hn; simp at hn
    ·rcases aJ.1 h with rfl | h
     ·exact e rfl
     ·rw [show (p.1 == q.1) = false by simpa using e] at hn
      exact ih h hn
  exact absurd hl (this A hp)
theorem zue {A : PR} {n : Nat} (h : A.Ok n) : (zdy A).Ok n := by
 intro p hp
 obtain ⟨i, hi, rfl⟩ := aT.1 hp
 obtain ⟨b, hb⟩ := zlf (zjx.1 hi)
 have := h _ (zcj hb)
 simp only [hb, eW]
 exact this
theorem zkx (d : Dk) (s : Pg) (lb : Nat) (A : PR) : ∀ it ∈ [dkI d, pgI s d, zd8 .i64 lb (toP A)], it.Stable none' := by
 intro it hm
 rcases hm with _ | ⟨_, _ | ⟨_, _ | ⟨_, hm⟩⟩⟩
 ·exact zad _
 ·exact zco _ _
 ·exact za6 _ _ _ _
 ·exact nomatch hm
theorem zus (s : Pg) (d : Dk) (lb : Nat) (A : PR) (ok : d.D.Ok) (hkl : d.D.keep.length ≤ 1000000) (hwl : d.D.wait.length + A.length ≤ 1000000) (hn : s.n ≤ 1024) (hsecs : s.g.h.secs < 65536) (hA : A.Ok s.n) (w : World)
  (hw : ∀ it ∈ [dkI d, pgI s d, zd8 .i64 lb (toP A)], za1 it w) (ha : [dkI d, pgI s d, zd8 .i64 lb (toP A)].Pairwise Eng.Item.Apart) :
  Ct Tryz.prog 93 #[.pointer (some ⟨s.b, 0, none⟩), .map (some lb)] w (zan [dkI d, pgI s d, zd8 .i64 lb (toP A)]) (fun _ : Dk => .int .i64 ((zb5 d.D (wsP s.g.h.secs A)).1 : Nat)) (zj6 d (zb5 d.D (wsP s.g.h.secs A)).2) (fun d' => [dkI d', pgI s d', zd8 .i64 lb (toP A)]) := by
 refine zbb [_, _] _ Tryz.func93 rfl rfl hw ha ?_
 simp only [zaa, Nat.reduceAdd]
 refine goA ?_
 refine ze7 rfl rfl kQ rfl (fun w1 hw1 => qcj lb w1) fun x hx => ?_
 refine goA ?_
 refine za0 [0, 3, 1, 2] rfl rfl ?_
 have hkl2 : (toP A).length = A.length := by simp [toP]
 have hke : zo4 (toP A) = A.map (·.1) := by simp [zo4, toP, jV]
 refine lCu (kyI x lb (toP A)) rfl (zmk _ _ _) (fun w1 hw1 hh1 ha1 => zn4 x lb (toP A) oQ w1 hh1 ha1) fun ⟨o, _⟩ => ?_
 rw [hkl2, hke]
 dsimp only
 refine zd4 (fun w hw => (zas (hw.item (own 3 1 o A.length (zfw (zlv (A.map (·.1))))) (.head _)).1)) fun ⟨hsl, hcap⟩ => ?_
 rw [hsl]
 refine goA ?_
 have hrl : (zdy A).length = A.length := by rw [zdy, aG, zof, aG]
 have hwsl : (wsP s.g.h.secs A).length = A.length := by rw [wsP, aG, hrl]
 have hro := zue hA
 have hwsk : ∀ k (hk : k < A.length), (wsP s.g.h.secs A).take (k + 1) = (wsP s.g.h.secs A).take k ++ [(2 + s.g.h.secs + ((zdy A)[k]'oQ).1, ((zdy A)[k]'oQ).2)] := fun k hk => by
  rw [eY, wsP, aN, aB oQ]
  rfl
 have hokk : ∀ k, (zb5 d.D ((wsP s.g.h.secs A).take k)).2.Ok := fun k => zje _ _ ok
 have hkeepk : ∀ k, k ≤ A.length → (zb5 d.D ((wsP s.g.h.secs A).take k)).1 = 0 → (zb5 d.D ((wsP s.g.h.secs A).take k)).2.keep = d.D.keep ∧ (zb5 d.D ((wsP s.g.h.secs A).take k)).2.wait.length = d.D.wait.length + k := fun k hk h0 => by
  have := zjd ((wsP s.g.h.secs A).take k) d.D ok h0
  rw [aO, hwsl, eQ hk] at this
  exact this
 have hbad : ∀ k, (zb5 d.D ((wsP s.g.h.secs A).take k)).1 ≠ 0 → zb5 d.D (wsP s.g.h.secs A) = zb5 d.D ((wsP s.g.h.secs A).take k) := fun k hk => by
  have h1 := zoi ((wsP s.g.h.secs A).take k) ((wsP s.g.h.secs A).drop k) d.D hk
  rw [bE] at h1
  exact h1
 have hall : zb5 d.D ((wsP s.g.h.secs A).take A.length) = zb5 d.D (wsP s.g.h.secs A) := by rw [cA oQ]
 refine zcp (α := Nat × Dk) (fun y => [(0, .pointer (some ⟨s.b, 0, none⟩)), (1, .map (some lb)), (11, .slice (slA o) A.length (slC o)), (12, .int .i64 A.length), (13, .int .i64 y.1)]) (fun y => y.1 ≤ A.length ∧ (zb5 d.D ((wsP s.g.h.secs A).take y.1)).1 = 0 ∧ zj6 d (zb5 d.D ((wsP s.g.h.secs A).take y.1)).2 y.2) (fun y => [dkI y.2, pgC s d, lgI s.bl d s.g, zd8 .i64 s.kb (toP s.K), zd8 .i64 s.db (toB s.R), zd8 .i64 s.cb (toP s.C), zd8 .i64 lb (toP A), own 3 1 o A.length (zfw (zlv (A.map (·.1))))]) (fun y => A.length - y.1) (0, d) ⟨rfl, rfl, rfl, rfl, rfl, trivial⟩ ⟨aV _, rfl, rfl, rfl, rfl⟩ (fun w hw => (zi2 (m := [dkI d, zd8 .i64 lb (toP A), own 3 1 o A.length (zfw (zlv (A.map (·.1))))]) (hw.pick [3, 2, 1, 0] rfl rfl)).pick [5, 0, 1, 2, 3, 4, 6, 7] rfl rfl) fun ⟨k, d1⟩ ⟨hk, h0, hd1⟩ => ?_
 simp only at hk h0 hd1 ⊢
 by_cases hkn : k < A.length
 ·have hst : zb5 d.D ((wsP s.g.h.secs A).take (k + 1)) = zbz (zb5 d.D ((wsP s.g.h.secs A).take k)).2 (2 + s.g.h.secs + ((zdy A)[k]'oQ).1) ((zdy A)[k]'oQ).2 := by
   rw [hwsk k hkn, zqv, if_pos h0]
  obtain ⟨hkp, hwt⟩ := hkeepk k oQ h0
  have hokd := hokk k
  have hbad2 := hbad (k + 1)
  generalize zb5 d.D ((wsP s.g.h.secs A).take k) = r at *
  obtain ⟨hd1a, hd1b, hd1c⟩ := hd1
  rw [← hd1c] at hkp hwt hokd hst
  have hin := hro _ (aR (l := zdy A) (n := k) oQ)
  have hsk : (zlv (A.map (·.1)))[k]? = some ((zdy A)[k]'oQ).1 := by
   rw [aB (by rw [zof, aG]; exact hkn)]
   simp [zdy]
  have hlk : A.lookup ((zdy A)[k]'oQ).1 = some ((zdy A)[k]'oQ).2 := by
   have h1 : ((zdy A)[k]'oQ).1 ∈ A.map (·.1) := zjx.1 (cH hsk)
   obtain ⟨b, hb⟩ := zlf h1
   rw [hb]
   simp only [zdy, cW] at hb ⊢
   rw [hb]
   rfl
  generalize (zdy A)[k]'oQ = p at hst hin hsk hlk
  obtain ⟨i, bs⟩ := p
  simp only at hst hin hsk hlk
  rcases o with _ | ⟨ob, oc⟩
  ·refine zfd (fun w hw => (hw.item (own 3 1 none A.length (zfw (zlv (A.map (·.1))))) sQ).1.2) fun h => ?_
   exact absurd h oQ
  have hcell : ∀ {m : List Eng.Item} {w2 : World} {F2 : Nat → Prop} (w' : World), Hp w2 F2 m w' → own 3 1 (some (ob, oc)) A.length (zfw (zlv (A.map (·.1)))) ∈ m → w'.cell? ⟨ob, k, none⟩ = some (.int .i64 (i : Int)) := fun w' hw' hm => zbm (hw'.item _ hm).1 k _ (by simp [zfw, hsk])
  simp only [slA, slC]
  have hbl : (zaf bs).length = 512 := by rw [zap, hin.2]
  refine goA ?_
  refine l_w rfl (zay (v := .int .i64 (i : Int)) rfl rfl (fun w' hw' => by rw [aF]; exact hcell w' hw' sQ)) ?_
  refine goA ?_
  refine l_w rfl (qkc (q := .i64) (h := i) (A := toP A) (b := lb) rfl rfl rfl rfl rfl (okI oQ) sQ) ?_
  rw [zsu, hlk]
  simp only [cK, eW, pgV]
  refine goA ?_
  refine zal rfl rfl fun b7 hb7 => ?_
  refine zaz rfl (zag (cs' := (zaf bs).toArray) rfl rfl rfl (by rw [bR, hbl]; rfl) (zeo _) (by rw [bR, hbl]; rfl)) fun _ => ?_
  refine goA ?_
  refine zde [1, 0, 2, 3, 4, 5, 6, 7, 8] rfl rfl ?_
  refine zao [1, 2, 3, 4, 5, 6, 7, 8] 14 rfl rfl kQ ?_
  (repeat first | refine dAv [11] rfl rfl rfl ?_ | refine dno [11] rfl rfl rfl ?_ | refine dT [11] rfl rfl rfl rfl ?_ | refine dF [11] rfl rfl rfl rfl ?_)
  refine d_v [8] rfl rfl kQ (fun _ h => goH h) rfl rfl (zun (n := 512) rfl rfl rfl rfl) ?_
  refine zaw 8 ⟨kQ, dQ⟩ rfl rfl (zfb rfl kQ rfl (fun w1 hw1 => zgu s.bl d s.g w1 (za1.of (hw1.item (lgI s.bl d s.g) sQ) (zac _ _ _)))) (fun _ _ h => goH h) fun _ => ?_
  refine goE ?_
  refine zaw 10 ⟨kQ, dQ⟩ rfl rfl (zfb rfl kQ rfl (fun w1 hw1 => zfy s.g.h.secs i oQ oQ w1)) (fun _ _ h => goH h) fun _ => ?_
  refine goE ?_
  rw [← hd1a]
  refine zaw 12 ⟨kQ, dQ⟩ rfl rfl (zg5 (pre := [dkI d1]) rfl kQ rfl (by intro it hm; rcases hm with _ | ⟨_, hm⟩ <;> first | exact zad _ | exact (nomatch hm)) (fun w1 hw1 hh1 ha1 => zx0 d1 hokd (by rw [hkp]; exact hkl) (by rw [hwt]; omega) (2 + s.g.h.secs + i) oQ bs 512 hin.2 (some ⟨b7, 0, none⟩) 512 dQ w1 hh1 (fun w2 hw2 => .inr ⟨b7, 0, rfl, za7 (hw1.still (y := pt b7 (.cells (zaf bs).toArray 89 (0, 0))) (.head _) (zac _ _ _) hw2)⟩))) (fun _ _ h => goH h) fun ⟨d2, hd2⟩ => ?_
  refine goE ?_
  refine zei kQ ?_
  dsimp only
  rw [← hst] at hd2 ⊢
  have hok2 : zj6 d (zb5 d.D ((wsP s.g.h.secs A).take (k + 1))).2 d2 := ⟨hd2.1.trans hd1a, hd2.2.1.trans hd1b, hd2.2.2⟩
  refine goA ?_
  by_cases he : (zb5 d.D ((wsP s.g.h.secs A).take (k + 1))).1 = 0
  ·have hne : (((zb5 d.D ((wsP s.g.h.secs A).take (k + 1))).1 : Int) != 0) = false := by simp [he]
   rw [hne]
   refine goA ?_
   exact zav (k + 1, d2) ⟨rfl, rfl, rfl, rfl, rfl, trivial⟩ ⟨hkn, he, hok2⟩ (fun w hw => by exact hw.pick [0, 2, 3, 4, 5, 6, 7, 8] rfl rfl) (by show A.length - (k + 1) < A.length - k; omega)
  ·have hne : (((zb5 d.D ((wsP s.g.h.secs A).take (k + 1))).1 : Int) != 0) = true := by simp [he]
   rw [hne, hbad2 he]
   refine goA ?_
   refine zb3 (m' := [dkI d2, pgI s d2, zd8 .i64 lb (toP A)]) (fun w' hw' => ?_) (zbs d2 rfl rfl rfl hok2 (.refl _) (zkx _ _ _ _))
   rw [qmv hok2.1]
   exact (zgc (m := [dkI d2, zd8 .i64 lb (toP A)]) (hw'.pick [2, 3, 4, 5, 6, 0, 7] rfl rfl)).pick [1, 0, 2] rfl rfl
 ·obtain rfl : k = A.length := oQ
  rw [hall] at h0 hd1
  rw [h0]
  refine goA ?_
  refine zb3 (m' := [dkI d1, pgI s d1, zd8 .i64 lb (toP A)]) (fun w' hw' => ?_) (zbs d1 rfl rfl rfl hd1 (.refl _) (zkx _ _ _ _))
  rw [qmv hd1.1]
  exact (zgc (m := [dkI d1, zd8 .i64 lb (toP A)]) (hw'.pick [1, 2, 3, 4, 5, 0, 6] rfl rfl)).pick [1, 0, 2] rfl rfl
end Go.Proofs.YtkkfifhaobjicaaGreatDoor
namespace Go.Proofs.YtkkfifhaobjicaaGreatDoor
open Go.RowKit Go.Eng Go.Eng.Bm
set_option maxRecDepth 100000
def zd1 (R : PR) : Bys := R.flatMap fun p => beN 2 p.1 ++ p.2
theorem zqi {R : PR} {n : Nat} (h : R.Ok n) : (zd1 R).length = 514 * R.length := by
 induction R with
 | nil => rfl
 | cons p R ih =>
  have h1 := (h p (.head _)).2
  have h2 := ih fun q hq => h q (.tail _ hq)
  unfold zd1 at h2 ⊢
  rw [aW, aA, aA, zam, h1, h2, aZ]
  omega
end Go.Proofs.YtkkfifhaobjicaaGreatDoor
namespace Go.Proofs.YtkkfifhaobjicaaGreatDoor
open Go.RowKit Go.Eng Go.Eng.Bm
set_option maxRecDepth 100000
set_option maxHeartbeats 40000000
def zme (A : PR) (R : PR) : PR := R.foldl (fun A p => zeu A p.1 p.2) A
theorem qfg (A R : PR) (p : Nat × Bys) : zme A (R ++ [p]) = zeu (zme A R) p.1 p.2 := by simp [zme]
theorem zsq (p : Nat × Bys) (R : PR) : zd1 (p :: R) = beN 2 p.1 ++ (p.2 ++ zd1 R) := by simp [zd1]
theorem zvq (s : Pg) (d : Dk) (R : PR) (hn : s.n ≤ 1024) (hR : R.Ok s.n) (hRl : R.length ≤ 100000) (w : World) (h : za1 (pgI s d) w) :
  Ct Tryz.prog 92 #[.pointer (some ⟨s.b, 0, none⟩), .string ⟨(zd1 R).toArray⟩] w none' (fun b : Nat => .tuple #[.map (some b), .bool true]) (fun _ => True) (fun b => [zd8 .i64 b (toP (zme [] R))]) := by
 refine zfv [_, _] Tryz.func92 rfl rfl ?_
 have htl := zqi hR
 have hbal := bal (zd1 R)
 simp only [zaa, Nat.reduceAdd]
 refine goA ?_
 refine zaz rfl (qas rfl rfl rfl rfl) fun ⟨p1, hp1, hp2⟩ => ?_
 dsimp only
 rw [hbal]
 refine goA ?_
 refine ze7 rfl rfl kQ rfl (fun w1 hw1 => zk1 (some ⟨p1.1, 0, none⟩) (zd1 R).length p1.2 (zd1 R) rfl oQ w1 (.inr ⟨p1.1, 0, rfl, zlw (hw1.item (zp9 5 (zd1 R) p1.1 p1.2) (.head _)).1⟩)) fun x hx => ?_
 obtain ⟨b, oD⟩ := x
 simp only at hx ⊢
 have hsD : (own 5 1 oD (zd1 R).length (zaf (zd1 R))).Stable none' := zab _ _ _ _ _ _
 generalize own 5 1 oD (zd1 R).length (zaf (zd1 R)) = D at hx hsD
 refine goA ?_
 refine zaz rfl (zgi (q := .i64) rfl) fun ⟨mb, hmb⟩ => ?_
 refine goA ?_
 refine zcp (α := Nat × (Option Addr × Nat)) (fun y => [(0, .pointer (some ⟨s.b, 0, none⟩)), (6, .pointer (some ⟨b, 0, none⟩)), (7, .map (some mb))]) (fun y => y.1 ≤ R.length ∧ zjg D y.2.1 y.2.2 (zd1 (R.drop y.1))) (fun y => [opI b y.2.1 y.2.2 (zd1 (R.drop y.1), false), D, zd8 .i64 mb (toP (zme [] (R.take y.1)))]) (fun y => R.length - y.1) (0, (slA oD, slC oD)) ⟨rfl, rfl, rfl, trivial⟩ ⟨aV _, hx⟩ (fun w hw => hw.pick [1, 2, 0] rfl rfl) fun ⟨k, y⟩ ⟨hk, hy⟩ => ?_
 simp only at hk hy ⊢
 have htlk := zqi (R := R.drop k) (n := s.n) (fun p hp => hR p (bZ hp))
 rw [aU] at htlk
 by_cases hkn : k < R.length
 ·have hdr : R.drop k = R[k] :: R.drop (k + 1) := (dG ..).symm
  have hpk := hR _ (aR hkn)
  have hik : zme [] (R.take (k + 1)) = zeu (zme [] (R.take k)) R[k].1 R[k].2 := by rw [cT hkn, qfg]
  rw [hdr, zsq] at hy htlk ⊢
  generalize R[k] = p at hpk hik hy htlk ⊢
  obtain ⟨i, bs⟩ := p
  simp only at hpk hik hy htlk ⊢
  obtain ⟨rest, hrest⟩ : ∃ r, zd1 (R.drop (k + 1)) = r := ⟨_, rfl⟩
  rw [hrest] at hy htlk ⊢
  obtain ⟨hin, hbs⟩ := hpk
  have hbl : (zaf bs).length = 512 := by rw [zap, hbs]
  have e1 : opN 2 (beN 2 i ++ (bs ++ rest), false) = (i, (bs ++ rest, false)) := zik oQ _
  have e2 : opT 512 (bs ++ rest, false) = (bs, (rest, false)) := by rw [← hbs]; exact zpl bs rest
  refine goA ?_
  refine lPu rfl (fun w1 hw1 => zgh b y.1 y.2 _ w1 (za1.of (hw1.item (opI b y.1 y.2 (beN 2 i ++ (bs ++ rest), false)) (.head _)) (zak _ _ _ _))) ?_
  simp only [htlk]
  refine goA ?_
  refine lCu [opI b y.1 y.2 (beN 2 i ++ (bs ++ rest), false), D] rfl (by simp [zak, hsD]) (fun w1 hw1 hh1 ha1 => zij i (bs ++ rest, false) e1 hsD hy (.inr (.inl rfl)) (by simp only [htlk]; omega) hh1 ha1) fun ⟨y1, hy1⟩ => ?_
  simp only at hy1
  have hl2 : (bs ++ rest).length ≤ 1000000000 := by
   rw [aA, zam] at htlk
   omega
  refine goA ?_
  refine lCu [opI b y1.1 y1.2 (bs ++ rest, false), D] rfl (by simp [zak, hsD]) (fun w1 hw1 hh1 ha1 => zpf bs (rest, false) e2 hsD hy1 hl2 hh1 ha1) fun ⟨y2, hy2⟩ => ?_
  simp only at hy2
  refine goA ?_
  refine lPu rfl (fun w1 hw1 => zew b y2.1 y2.2 (rest, false) w1 (za1.of (hw1.item (opI b y2.1 y2.2 (rest, false)) (.head _)) (zak _ _ _ _))) ?_
  simp only [bU, if_false]
  refine goA ?_
  refine l_w rfl (zay (v := .int .i64 (s.n : Int)) rfl rfl (fun w' hw' => zq8 (h.keep hw') 2 rfl)) ?_
  refine goA ?_
  refine zaz rfl (qas rfl rfl rfl rfl) fun ⟨p2, _, _⟩ => ?_
  dsimp only
  rw [bal, hbs]
  refine goA ?_
  refine l_w rfl (zw3 rfl rfl dQ) ?_
  refine goA ?_
  refine l_w rfl (zft (xs := zaf bs) (c := (zaf bs).toArray) rfl (by rw [hbl]; rfl) (fun w' hw' => zlw (hw'.item (zp9 5 bs p2.1 p2.2) (.head _)).1) rfl) ?_
  refine za0 [3, 0, 1, 2] rfl rfl ?_
  refine zaz rfl (zjp (h := i) (v := pgV bs) rfl rfl rfl rfl rfl rfl (okI oQ)) fun _ => ?_
  rw [← zqk, ← hik]
  refine goA ?_
  exact zav (k + 1, y2) ⟨rfl, rfl, rfl, trivial⟩ ⟨hkn, by show zjg _ _ _ (zd1 (R.drop (k + 1))); rw [hrest]; exact hy2⟩ (fun w hw => by show Hp _ _ [opI _ _ _ (zd1 (R.drop (k + 1)), false), _, _] w; rw [hrest]; exact hw.pick [2, 3, 0] rfl rfl) (by show R.length - (k + 1) < R.length - k; omega)
 ·obtain rfl : k = R.length := oQ
  have hd0 : R.drop R.length = [] := kD
  rw [hd0, gZ]
  refine goA ?_
  refine lPu rfl (fun w1 hw1 => zgh b y.1 y.2 _ w1 (za1.of (hw1.item (opI b y.1 y.2 (zd1 [], false)) (.head _)) (zak _ _ _ _))) ?_
  rw [show ((zd1 [], false) : Opn).1.length = 0 from rfl]
  refine goA ?_
  exact zdq mb rfl rfl rfl rfl trivial (.cons _ (.cons _ (.refl _))) (by simp [za6])
end Go.Proofs.YtkkfifhaobjicaaGreatDoor
namespace Go.Proofs.YtkkfifhaobjicaaGreatDoor
open Go.RowKit Go.Eng
set_option maxRecDepth 100000
set_option maxHeartbeats 40000000
def qoe {σ : Type} : List ((σ → Nat) × (σ → σ → Prop)) → σ → Nat × σ → Prop
 | [], s, x => x = (0, s)
 | t :: r, s, x => ∃ s', t.2 s s' ∧ (if t.1 s = 0 then qoe r s' x else x = (t.1 s, s'))
def fvV (f : FuncId × List Value × List Value) : Value := .func (.func f.1) f.2.1.toArray f.2.2.toArray
abbrev fvI (qb qc : Nat) (fv : List (FuncId × List Value × List Value)) : Eng.Item := own 152 1 (some (qb, qc)) fv.length (fv.map fvV)
theorem qeb {σ : Type} (B : σ → List Eng.Item) (fv : List (FuncId × List Value × List Value)) (st : List ((σ → Nat) × (σ → σ → Prop))) (hl : st.length = fv.length) (I : Nat → σ → Prop) (s0 : σ) (h0 : I 0 s0)
  (hB : ∀ s, ∀ it ∈ B s, it.Stable none') (hfl : fv.length ≤ 1000)
  (hstep : ∀ k f t s, fv[k]? = some f → st[k]? = some t → I k s → zbu Tryz.prog f.1 = true ∧ ∀ w, (∀ it ∈ B s, za1 it w) → (B s).Pairwise Eng.Item.Apart → Ct Tryz.prog f.1 (f.2.1 ++ f.2.2).toArray w (zan (B s)) (fun _ : σ => .int .i64 (t.1 s : Nat)) (t.2 s) (fun s' => B s'))
  (hI : ∀ k t s s', st[k]? = some t → I k s → t.2 s s' → t.1 s = 0 → I (k + 1) s')
  (qb qc : Nat) (w : World) (hw : ∀ it ∈ B s0 ++ [fvI qb qc fv], za1 it w) (ha : (B s0 ++ [fvI qb qc fv]).Pairwise Eng.Item.Apart) :
  Ct Tryz.prog 94 #[.slice (some ⟨qb, 0, none⟩) fv.length qc] w (zan (B s0 ++ [fvI qb qc fv])) (fun x : Nat × σ => .int .i64 (x.1 : Nat)) (qoe st s0) (fun x => B x.2) := by
 refine zbb [_] _ Tryz.func94 rfl rfl hw ha ?_
 simp only [zaa]
 refine goA ?_
 refine zcp (α := Nat × σ) (fun y => [(6, .slice (some ⟨qb, 0, none⟩) fv.length qc), (7, .int .i64 fv.length), (8, .int .i64 y.1)]) (fun y => y.1 ≤ fv.length ∧ I y.1 y.2 ∧ ∀ x, qoe (st.drop y.1) y.2 x → qoe st s0 x) (fun y => B y.2 ++ [fvI qb qc fv]) (fun y => fv.length - y.1) (0, s0) ⟨rfl, rfl, rfl, trivial⟩ ⟨aV _, h0, fun _ h => h⟩ (fun w h => h) fun ⟨k, s⟩ ⟨hk, hIk, hR⟩ => ?_
 simp only at hk hIk hR ⊢
 by_cases hkn : k < fv.length
 ·have hf : fv[k]? = some fv[k] := aB hkn
  have ht : st[k]? = some (st[k]'oQ) := aB oQ
  have hcell : ∀ {m : List Eng.Item} {w2 : World} {F2 : Nat → Prop} (w' : World), Hp w2 F2 m w' → fvI qb qc fv ∈ m → w'.cell? ⟨qb, k, none⟩ = some (fvV fv[k]) := fun w' hw' hm => zbm (hw'.item _ hm).1 k _ (by simp [hkn])
  have hdr : st.drop k = st[k]'oQ :: st.drop (k + 1) := (dG ..).symm
  rw [hdr] at hR
  generalize st[k]'oQ = t at ht hR
  generalize fv[k] = f at hf hcell
  obtain ⟨hb, hc⟩ := hstep k f t s hf ht hIk
  have hI2 := hI k t s
  obtain ⟨f, fs, cs⟩ := f
  simp only at hb hc
  have hV : fvV (f, fs, cs) = .func (.func f) fs.toArray cs.toArray := rfl
  rw [hV] at hcell
  refine goA ?_
  refine l_w rfl (zay rfl rfl (fun w' hw' => by rw [aF]; exact hcell w' hw' sQ)) ?_
  refine goA ?_
  refine zgt rfl (qjk (pre := B s) (fs := fs) (cs := cs) (vs := []) rfl hb rfl rfl rfl (hB s) (fun w1 hw1 hh1 ha1 => hc w1 hh1 ha1)) fun ⟨s', hs'⟩ => ?_
  dsimp only
  refine goA ?_
  by_cases he : t.1 s = 0
  ·have hne : ((t.1 s : Int) != 0) = false := by simp [he]
   rw [hne]
   refine goA ?_
   exact zav (k + 1, s') ⟨rfl, rfl, rfl, trivial⟩ ⟨hkn, hI2 s' ht hIk hs' he, fun x hx => hR x ⟨s', hs', by rw [if_pos he]; exact hx⟩⟩ (fun w hw => hw) (by show fv.length - (k + 1) < fv.length - k; omega)
  ·have hne : ((t.1 s : Int) != 0) = true := by simp [he]
   rw [hne]
   refine goA ?_
   exact zbs (t.1 s, s') rfl rfl rfl (hR _ ⟨s', hs', by rw [if_neg he]⟩) (List.sublist_append_left _ _) (hB s')
 ·obtain rfl : k = fv.length := oQ
  have hd0 : st.drop fv.length = [] := gG oQ
  rw [hd0] at hR
  refine goA ?_
  exact zbs (0, s) rfl rfl rfl (hR _ rfl) (List.sublist_append_left _ _) (hB s)
end Go.Proofs.YtkkfifhaobjicaaGreatDoor
namespace Go.Eng
open Go.RowKit
theorem Ct.conv {P : Program} {f : FuncId} {args : Array Value} {w : World} {pre pre2 rest : List Item} {α α2 : Type} {val : α → Value} {φ : α → Prop} {its : α → List Item} {val2 : α2 → Value} {φ2 : α2 → Prop} {its2 : α2 → List Item} (g : α2 → α)
  (h0 : Hp w (zan pre) (pre2 ++ rest) w) (hs2 : ∀ it ∈ pre2, it.Stable none') (h : (∀ it ∈ pre2, za1 it w) → pre2.Pairwise Item.Apart → Ct P f args w (zan pre2) val2 φ2 its2)
  (hv : ∀ x, φ2 x → val2 x = val (g x)) (hφ : ∀ x, φ2 x → φ (g x)) (hst : ∀ x, ∀ it ∈ its x, it.Stable none') (hout : ∀ x w', φ2 x → Hp w (zan pre) (its2 x ++ rest) w' → Hp w (zan pre) (its (g x)) w') : Ct P f args w (zan pre) val φ its := by
 have h1 := h (fun it hm => za1.of (h0.item it (aK _ hm)) (hs2 it hm)) (bP.1 h0.apart).1
 unfold Ct at h1 ⊢
 refine h1.mono ?_
 rintro e w' ⟨x, he, hx, hi⟩
 exact ⟨g x, by rw [he, hv x hx], hφ x hx, (hout x w' hx (h0.call hi fun _ _ ⟨it, hm, hk⟩ => ⟨it, hm, hk⟩)).its (.refl _) (hst _)⟩
end Go.Eng
namespace Go.Proofs.YtkkfifhaobjicaaGreatDoor
open Go.RowKit Go.Eng
set_option maxRecDepth 100000
def qou (K : PR) (R : List Nat) : PR := (zlv R).map fun i => (i, (K.lookup i).getD [])
end Go.Proofs.YtkkfifhaobjicaaGreatDoor
namespace Go.Eng
open Go.RowKit
theorem qqc {P : Program} {l : zaq} {H : World → Prop} {ty : TypeId} {f : FuncId} {xs : List Operand} {vs : List Value} (hx : evs l xs = some vs) : OV P (.makeFunc (.func f) xs.toArray #[]) ty l H (.func (.func f) vs.toArray #[]) := ov fun _ _ _ w _ => by
 simp only [execOp, fF, zhz hx]
 rfl
end Go.Eng
namespace Go.Proofs.YtkkfifhaobjicaaGreatDoor
open Go.RowKit Go.Eng
set_option maxRecDepth 100000
def wsD (s : Pg) : List (Nat × Bys) := (qou s.K s.R).map fun p => (2 + s.g.h.secs + p.1, p.2)
def zpm (s : Pg) (D : Dsk) : Nat × Dsk × Lg :=
 if (zcu D (wsD s)).1 = 0 then ((zbw (zcu D (wsD s)).2 (za4 s.g.at_) (zbr s.g)).1, (zbw (zcu D (wsD s)).2 (za4 s.g.at_) (zbr s.g)).2, { zku s.g (zcu D (wsD s)).2 with dead := decide ((zbw (zcu D (wsD s)).2 (za4 s.g.at_) (zbr s.g)).1 = 4) })
 else ((zcu D (wsD s)).1, (zcu D (wsD s)).2, s.g)
def qjo (s : Pg) (D : Dsk) : Pg := { s with g := (zpm s D).2.2, R := if (zpm s D).1 = 0 then [] else s.R }
theorem zr7 (s : Pg) (d : Dk) : ∀ it ∈ [pgI s d, dkI d, ctI], it.Stable none' := by
 intro it hm
 rcases hm with _ | ⟨_, _ | ⟨_, _ | ⟨_, hm⟩⟩⟩
 ·exact zco s d
 ·exact zad _
 ·exact zc0 _
 ·exact nomatch hm
theorem zmb {D : Dsk} (h : (zb6 D).1 = 0) : (zb6 D).2.keep = D.keep ∧ (zb6 D).2.wait = [] := by
 unfold zb6 at h ⊢
 split at h
 ·cases h
 ·rename_i hd
  rw [if_neg hd]
  by_cases ha : (zgy D).1 = 0
  ·rw [if_pos ha]
   exact ⟨(zjh ha).2.2.2, rfl⟩
  ·rw [if_neg ha] at h
   exact absurd h ha
theorem zj6.trans {d d' d2 : Dk} {D D' : Dsk} (h : zj6 d D d') (h2 : zj6 d' D' d2) : zj6 d D' d2 := ⟨h2.1.trans h.1, h2.2.1.trans h.2.1, h2.2.2⟩
end Go.Proofs.YtkkfifhaobjicaaGreatDoor
namespace Go.Eng
open Go.RowKit
set_option maxRecDepth 100000
section
variable {P : Program} {Q : Exit → Act → World → Prop} {N : Fm} {l : zaq} {w0 : World} {F : Nat → Prop} {m : List Item} {ty : TypeId} {pos : String} {after : Array Edge} {g : Option (Nat × Bool)} {d : Nat} {q : IntKind} {x y z : Operand} {T k e : TypeId} {b : Nat} {A : zch} {h s : Nat} {zv v : Value}
end
end Go.Eng
namespace Go.Proofs.YtkkfifhaobjicaaGreatDoor
open Go.RowKit Go.Eng
set_option maxRecDepth 100000
def qi5 (s : Pg) (x : PR × List Nat) : Prop := (∀ i, x.1.lookup i = (s.C.lookup i).or (s.K.lookup i)) ∧ (∀ i, i ∈ x.2 ↔ i ∈ s.R ∨ (s.C.lookup i).isSome = true) ∧ x.1.Ok s.n ∧ (s.R.Nodup → x.2.Nodup)
theorem zcc {A : PR} {i : Nat} : (A.lookup i).isSome = true ↔ i ∈ A.map (·.1) := by
 constructor
 ·intro h
  obtain ⟨b, hb⟩ := cG.1 h
  exact aT.2 ⟨(i, b), zcj hb, rfl⟩
 ·intro h
  obtain ⟨b, hb⟩ := zlf h
  rw [hb]; rfl
structure KpS where
 L : zch
 c : Option (Nat × Value)
 k : List Nat
 K : PR
 R : List Nat
structure qog (s : Pg) (y : KpS) : Prop where
 L : y.L = (toP s.C).filter fun x => decide (x.1 ∉ y.k)
 nd : y.k.Nodup
 sub : ∀ z ∈ y.k, z ∈ s.C.map (·.1)
 look : ∀ i, y.K.lookup i = if i ∈ y.k then s.C.lookup i else s.K.lookup i
 mem : ∀ i, i ∈ y.R ↔ i ∈ s.R ∨ i ∈ y.k
 ok : y.K.Ok s.n
 rn : s.R.Nodup → y.R.Nodup
theorem qog.step {s : Pg} {y : KpS} (h : qog s y) {p : Nat × Value} (hp : p ∈ y.L) {b : Bys} (hb : s.C.lookup p.1 = some b) (hbo : p.1 < s.n ∧ b.length = 512) : qog s ⟨qdz y.L p, some p, y.k ++ [p.1], zeu y.K p.1 b, if p.1 ∈ y.R then y.R else y.R ++ [p.1]⟩ := by
 obtain ⟨hL, hnd, hsub, hlook, hmem, hok, hrn⟩ := h
 have hpk : p.1 ∉ y.k := by
  rw [hL] at hp
  simpa using (eG.1 hp).2
 refine ⟨zr4 hL p, ?_, fun z hz => ?_, fun i => ?_, fun i => ?_, PR.Ok.ins hok hbo.1 hbo.2, ?_⟩
 ·rw [cQ]
  refine ⟨hnd, by simp, fun a ha c hc => ?_⟩
  rw [aL] at hc
  subst hc
  exact fun e => hpk (e ▸ ha)
 ·rcases aS.1 hz with hz | hz
  ·exact hsub z hz
  ·rw [aL] at hz; subst hz
   exact zcc.1 (by rw [hb]; rfl)
 ·show (zeu y.K p.1 b).lookup i = _
  rw [zc7, hlook]
  by_cases e : i = p.1
  ·subst e; simp [hb]
  ·simp [e]
 ·show i ∈ (if p.1 ∈ y.R then y.R else y.R ++ [p.1]) ↔ _
  split
  ·rename_i hpR
   rw [hmem]
   simp only [aS, aL]
   constructor
   ·rintro (h | h)
    ·exact .inl h
    ·exact .inr (.inl h)
   ·rintro (h | h | h)
    ·exact .inl h
    ·exact .inr h
    ·subst h; exact (hmem _).1 hpR
  ·simp only [aS, aL, hmem]
   constructor
   ·rintro ((h | h) | h)
    ·exact .inl h
    ·exact .inr (.inl h)
    ·exact .inr (.inr h)
   ·rintro (h | h | h)
    ·exact .inl (.inl h)
    ·exact .inl (.inr h)
    ·exact .inr h
 ·intro hn
  show (if p.1 ∈ y.R then y.R else y.R ++ [p.1]).Nodup
  split
  ·exact hrn hn
  ·rename_i hpR
   rw [cQ]
   refine ⟨hrn hn, by simp, fun a ha c hc => ?_⟩
   rw [aL] at hc
   subst hc
   exact fun e => hpR (e ▸ ha)
theorem qog.done {s : Pg} {y : KpS} (h : qog s y) (h0 : y.L = []) (hnd : (s.C.map (·.1)).Nodup) : qi5 s (y.K, y.R) := by
 have hk : ∀ i, i ∈ y.k ↔ (s.C.lookup i).isSome = true := fun i => by
  rw [zcc]
  refine ⟨h.sub i, fun hi => ?_⟩
  by_cases hc : i ∈ y.k
  ·exact hc
  ·obtain ⟨q, hq, rfl⟩ := aT.1 hi
   have : (q.1, pgV q.2) ∈ (toP s.C).filter fun x => decide (x.1 ∉ y.k) := eG.2 ⟨aT.2 ⟨q, hq, rfl⟩, by simpa using hc⟩
   rw [← h.L, h0] at this
   exact nomatch this
 refine ⟨fun i => ?_, fun i => ?_, h.ok, ?_⟩
 ·show y.K.lookup i = _
  rw [h.look]
  by_cases hc : i ∈ y.k
  ·rw [if_pos hc]
   obtain ⟨b, hb⟩ := cG.1 ((hk i).1 hc)
   rw [hb]; rfl
  ·rw [if_neg hc]
   have : s.C.lookup i = none := by
    cases hl : s.C.lookup i with
    | none => rfl
    | some b => exact absurd ((hk i).2 (by rw [hl]; rfl)) hc
   rw [this]; rfl
 ·show i ∈ y.R ↔ _
  rw [h.mem, hk]
 ·exact h.rn
def tC (s : Pg) : Bys := zd1 (zdy s.C)
def qks (s : Pg) (D : Dsk) : Nat × Dsk × Pg :=
 if s.g.h.secs - s.g.used < za9 (tC s).length then ((zpm s D).1, (zpm s D).2.1, { qjo s D with dead := s.dead || decide ((zpm s D).1 = 4) }) else (0, D, s)
def qh1 (s : Pg) (D : Dsk) : Nat × Dsk × Pg :=
 ((ql0 D s.g (tC s)).1, (ql0 D s.g (tC s)).2, { s with g := { qq6 D s.g (tC s) with dead := decide ((ql0 D s.g (tC s)).1 = 4) }, dead := s.dead || decide ((ql0 D s.g (tC s)).1 = 4) })
def cmF (s : Pg) (D : Dsk) : Nat × Dsk × Pg := if (qks s D).1 = 0 then qh1 (qks s D).2.2 (qks s D).2.1 else qks s D
def cmR (s : Pg) (D : Dsk) (x : PR × List Nat) : Pg := if (cmF s D).1 = 0 then { (cmF s D).2.2 with K := x.1, R := x.2, C := [] } else (cmF s D).2.2
end Go.Proofs.YtkkfifhaobjicaaGreatDoor
namespace Go.Proofs.YtkkfifhaobjicaaGreatDoor
open Go.RowKit Go.Eng Go.Eng.Bm
set_option maxRecDepth 100000
set_option maxHeartbeats 40000000
def noU : Nat → Bool := fun _ => false
def bm0 (n : Nat) : Bys := bmB n (upd noU 0 true)
def zhd (log n : Nat) : List (Nat × Bys) := (List.range n).map fun i => (2 + log + i, if i = 0 then bm0 n else zdr)
def qdv (D : Dsk) (log n : Nat) (note : Bys) : Nat × Dsk :=
 if (zcu D (zhd log n)).1 = 0 then zbw (zcu D (zhd log n)).2 (za4 (zdb (zcu D (zhd log n)).2 2).2) (qcx (zcu D (zhd log n)).2 log (beN 2 n ++ note)) else zcu D (zhd log n)
theorem zmc {D : Dsk} (h : (zb6 D).1 = 0) : (zb6 D).2.dead = false ∧ (zb6 D).2.on.length = D.on.length := by
 unfold zb6 at h ⊢
 split at h
 ·cases h
 ·rename_i hd
  rw [if_neg hd]
  by_cases ha : (zgy D).1 = 0
  ·rw [if_pos ha]
   obtain ⟨h1, h2, h3, -⟩ := zjh ha
   refine ⟨?_, ?_⟩
   ·show (zgy D).2.dead = false
    rw [h3]; simpa using hd
   ·show (zis (zgy D).2.on (zgy D).2.wait _ _).length = _
    rw [zga, h2]
  ·rw [if_neg ha] at h
   exact absurd h ha
theorem zut : ∀ (l : List (Nat × Bys)) (D : Dsk), D.Ok → (zb5 D l).1 = 0 → (zb5 D l).2.on.length = D.on.length
 | [], _, _, _ => rfl
 | q :: l, D, h, h0 => by
  rw [zb5] at h0 ⊢
  by_cases h' : (zbz D q.1 q.2).1 = 0
  ·rw [if_pos h'] at h0 ⊢
   obtain ⟨h1, -, -, h4, -⟩ := zl5 h q.1 q.2 h'
   rw [zut l _ h1 h0, h4]
  ·rw [if_neg h'] at h0
   exact absurd h0 h'
theorem zra (d : Dk) (ok : d.D.Ok) (hlive : d.D.dead = false) (hkl : d.D.keep.length ≤ 1000000) (hwl : d.D.wait.length ≤ 10000) (log n : Nat) (note : Bys) (hl1 : 96 ≤ log) (hl2 : log ≤ 512) (hn1 : 64 ≤ n) (hn2 : n ≤ 1024) (hno : note.length ≤ 40) (hroom : 2 + log + n ≤ d.D.on.length) (w : World) (hw : ∀ it ∈ [dkI d, ctI], za1 it w) (ha : [dkI d, ctI].Pairwise Eng.Item.Apart) :
  Ct Tryz.prog 50 #[.pointer (some ⟨d.b, 0, none⟩), .int .i64 log, .int .i64 n, .string ⟨note.toArray⟩] w (zan [dkI d, ctI]) (fun _ : Dk => .int .i64 ((qdv d.D log n note).1 : Nat)) (zj6 d (qdv d.D log n note).2) (fun d' => [dkI d', ctI]) := by
 refine zbb [_, _, _, _] _ Tryz.func50 rfl rfl hw ha ?_
 have hbl := bal note
 have hmany := ok.many
 simp only [zaa, Nat.reduceAdd]
 refine goA ?_
 refine lPu rfl (fun w1 _ => qf1 n oQ oQ w1) ?_
 refine goA ?_
 refine zal rfl rfl fun b9 hb9 => ?_
 refine zaz rfl (zag (cs' := zhn n noS) rfl rfl rfl (by rw [za3]; rfl) (zef _ _) (by rw [za3]; rfl)) fun _ => ?_
 refine goA ?_
 refine lPu rfl (fun w1 hw1 => zfy log n oQ oQ w1) ?_
 refine goA ?_
 refine lPu rfl (fun w1 hw1 => zhp d w1 (za1.of (hw1.item (dkI d) sQ) (zad _))) ?_
 refine goA ?_
 refine lPu rfl (fun w1 _ => zmq n noU 0 true oQ w1) ?_
 rw [show qd2 n noU 0 true = upd noU 0 true from zui noU true (k := 0) oQ]
 refine ze7 rfl rfl kQ rfl (fun w1 hw1 => zne n (upd noU 0 true) oQ w1) fun x hx => ?_
 rw [zon]
 refine goA ?_
 have hwsl : (zhd log n).length = n := by rw [zhd, aG, fZ]
 have hwsk : ∀ k, k < n → (zhd log n).take (k + 1) = (zhd log n).take k ++ [(2 + log + k, if k = 0 then bm0 n else zdr)] := fun k hk => by
  rw [eY, zhd, aN, dV hk]
  rfl
 have hokk : ∀ k, (zb5 d.D ((zhd log n).take k)).2.Ok := fun k => zje _ _ ok
 have hkeepk : ∀ k, k ≤ n → (zb5 d.D ((zhd log n).take k)).1 = 0 → (zb5 d.D ((zhd log n).take k)).2.keep = d.D.keep ∧ (zb5 d.D ((zhd log n).take k)).2.wait.length = d.D.wait.length + k := fun k hk h0 => by
  have := zjd ((zhd log n).take k) d.D ok h0
  rw [aO, hwsl, eQ hk] at this
  exact this
 have hbad : ∀ k, (zb5 d.D ((zhd log n).take k)).1 ≠ 0 → zb5 d.D (zhd log n) = zb5 d.D ((zhd log n).take k) := fun k hk => by
  have h1 := zoi ((zhd log n).take k) ((zhd log n).drop k) d.D hk
  rw [bE] at h1
  exact h1
 have hall : zb5 d.D ((zhd log n).take n) = zb5 d.D (zhd log n) := by rw [cA oQ]
 have hcl : ∀ k : Nat, (if k = 0 then bm0 n else zdr).length = 512 := fun k => by
  split
  ·exact zoo _ _
  ·simp [zdr]
 have hz : (zaf zdr).toArray = Array.replicate 512 (.int .u8 0) := by
  unfold zaf zdr
  rw [List.map_replicate, List.toArray_replicate]
  rfl
 refine zcp (α := Nat × Dk × Nat) (fun y => [(0, .pointer (some ⟨d.b, 0, none⟩)), (1, .int .i64 (log : Int)), (2, .int .i64 (n : Int)), (3, .string ⟨note.toArray⟩), (56, .int .i64 n), (57, .int .i64 y.1), (11, .slice (some ⟨y.2.2, 0, none⟩) 512 512)]) (fun y => y.1 ≤ n ∧ (zb5 d.D ((zhd log n).take y.1)).1 = 0 ∧ zj6 d (zb5 d.D ((zhd log n).take y.1)).2 y.2.1) (fun y => [dkI y.2.1, pt y.2.2 (.cells (zaf (if y.1 = 0 then bm0 n else zdr)).toArray 5 (0, 0)), ctI]) (fun y => n - y.1) (0, d, x) ⟨rfl, rfl, rfl, rfl, rfl, rfl, rfl, trivial⟩ ⟨aV _, rfl, rfl, rfl, rfl⟩ (fun w hw => by exact hw.pick [2, 0, 3] rfl rfl) fun ⟨k, d1, xb⟩ ⟨hk, h0, hd1⟩ => ?_
 simp only at hk h0 hd1 ⊢
 by_cases hkn : k < n
 ·have hst : zb5 d.D ((zhd log n).take (k + 1)) = zbz (zb5 d.D ((zhd log n).take k)).2 (2 + log + k) (if k = 0 then bm0 n else zdr) := by
   rw [hwsk k hkn, zqv, if_pos h0]
  obtain ⟨hkp, hwt⟩ := hkeepk k oQ h0
  have hokd := hokk k
  have hbad2 := hbad (k + 1)
  generalize zb5 d.D ((zhd log n).take k) = r at *
  obtain ⟨hd1a, hd1b, hd1c⟩ := hd1
  rw [← hd1c] at hkp hwt hokd hst
  have hcur := hcl k
  generalize (if k = 0 then bm0 n else zdr) = cur at hst hcur ⊢
  refine goA ?_
  refine lPu rfl (fun w1 hw1 => zfy log k oQ oQ w1) ?_
  refine goA ?_
  rw [← hd1a]
  refine lCu [dkI d1] rfl (by intro it hm; rcases hm with _ | ⟨_, hm⟩ <;> first | exact zad _ | exact (nomatch hm)) (fun w1 hw1 hh1 ha1 => zx0 d1 hokd (by rw [hkp]; exact hkl) (by rw [hwt]; omega) (2 + log + k) oQ cur 512 hcur (some ⟨xb, 0, none⟩) 512 dQ w1 hh1 (fun w2 hw2 => .inr ⟨xb, 0, rfl, za7 (hw1.still (y := pt xb (.cells (zaf cur).toArray 5 (0, 0))) (.head _) (zac _ _ _) hw2)⟩)) fun ⟨d2, hd2⟩ => ?_
  dsimp only
  rw [← hst] at hd2 ⊢
  have hok2 : zj6 d (zb5 d.D ((zhd log n).take (k + 1))).2 d2 := ⟨hd2.1.trans hd1a, hd2.2.1.trans hd1b, hd2.2.2⟩
  refine goA ?_
  by_cases he : (zb5 d.D ((zhd log n).take (k + 1))).1 = 0
  ·have hne : (((zb5 d.D ((zhd log n).take (k + 1))).1 : Int) != 0) = false := by simp [he]
   rw [hne]
   refine goA ?_
   refine qk1 rfl rfl rfl rfl rfl rfl dQ dQ fun c _ => ?_
   refine goA ?_
   exact zav (k + 1, d2, c) ⟨by rw [hd1a]; rfl, rfl, rfl, rfl, rfl, rfl, rfl, trivial⟩ ⟨hkn, he, hok2⟩ (fun w hw => by show Hp _ _ [dkI d2, pt c (.cells (zaf zdr).toArray 5 (0, 0)), ctI] w; rw [hz]; exact hw.pick [1, 0, 3] rfl rfl) (by show n - (k + 1) < n - k; omega)
  ·have hne : (((zb5 d.D ((zhd log n).take (k + 1))).1 : Int) != 0) = true := by simp [he]
   have hfm : qdv d.D log n note = zb5 d.D ((zhd log n).take (k + 1)) := by
    have hb : zcu d.D (zhd log n) = zb5 d.D ((zhd log n).take (k + 1)) := by rw [zcu, hbad2 he, if_neg he]
    rw [qdv, hb, if_neg he]
   rw [hne, hfm]
   refine goA ?_
   exact zbs d2 rfl rfl rfl hok2 (.cons_cons _ (.cons _ (.refl _))) (zb0 d2)
 ·obtain rfl : k = n := oQ
  rw [hall] at h0 hd1
  have hkk := hkeepk k (aX _) (by rw [hall]; exact h0)
  rw [hall] at hkk
  have hokd := zje (zhd log k) d.D ok
  have hlen1 := zut (zhd log k) d.D ok h0
  have hbt : zcu d.D (zhd log k) = zb6 (zb5 d.D (zhd log k)).2 := by rw [zcu, if_pos h0]
  unfold qdv
  rw [hbt]
  generalize zb5 d.D (zhd log k) = r at *
  obtain ⟨hd1a, hd1b, hd1c⟩ := hd1
  rw [← hd1c] at hkk hokd hlen1 ⊢
  refine goA ?_
  rw [← hd1a]
  refine lCu [dkI d1] rfl (by intro it hm; rcases hm with _ | ⟨_, hm⟩ <;> first | exact zad _ | exact (nomatch hm)) (fun w1 hw1 hh1 ha1 => zkf d1 hokd (by rw [hkk.1]; exact hkl) (by rw [hkk.2]; omega) w1 hh1) fun ⟨d2, hd2⟩ => ?_
  dsimp only
  have hok2 : zj6 d (zb6 d1.D).2 d2 := ⟨hd2.1.trans hd1a, hd2.2.1.trans hd1b, hd2.2.2⟩
  have hfo := zix hokd
  have hfk := zmb (D := d1.D)
  have hfl := zmc (D := d1.D)
  generalize zb6 d1.D = r2 at *
  refine goA ?_
  by_cases he : r2.1 = 0
  ·have hne : ((r2.1 : Int) != 0) = false := by simp [he]
   obtain ⟨hk1, hk2⟩ := hfk he
   obtain ⟨hl1', hl2'⟩ := hfl he
   rw [hne]
   simp only [if_pos he]
   rw [← hok2.2.2] at hfo hk1 hk2 hl1' hl2' ⊢
   refine goA ?_
   refine ze7 rfl rfl kQ rfl (fun w1 hw1 => zlh w1) fun x hx => ?_
   refine goA ?_
   refine lCu (pks x none []) rfl (by simp [zac, zab]) (fun w1 hw1 hh1 ha1 => zd9 x none [] 2 k (.inr (.inl rfl)) oQ dQ w1 hh1 ha1) fun ⟨o1, _⟩ => ?_
   rw [aI]
   refine goA ?_
   refine lCu (pks x o1 (beN 2 k)) rfl (by simp [zac, zab]) (fun w1 hw1 hh1 ha1 => zgm x o1 (beN 2 k) ⟨note.toArray⟩ (by rw [zam, hbl]; omega) w1 hh1 ha1) fun ⟨o2, _⟩ => ?_
   refine zez (m' := pks x o2 (beN 2 k ++ note) ++ [dkI d2, pt xb (.cells (zaf (if k = 0 then bm0 k else zdr)).toArray 5 (0, 0)), ctI]) (fun w' hw' => hw') ?_
   have htl : (beN 2 k ++ note).length ≤ 42 := by rw [aA, zam]; omega
   generalize beN 2 k ++ note = tx at htl ⊢
   refine lCu (pks x o2 tx) rfl (by simp [zac, zab]) (fun w1 hw1 hh1 ha1 => zfe x o2 tx oQ w1 hh1 ha1) fun ⟨o3, _⟩ => ?_
   dsimp only
   refine zd4 (fun w hw => (zas (hw.item (own 5 1 o3 tx.length (zaf tx)) (.head _)).1)) fun ⟨hsl2, _⟩ => ?_
   rw [hsl2]
   refine goA ?_
   refine l_w rfl (zsw (bs := tx) rfl rfl rfl rfl (fun w' hw' => zbl (hw'.item (own 5 1 o3 tx.length (zaf tx)) (.head _)).1)) ?_
   refine za0 [3, 5, 0, 1, 2, 4] rfl rfl ?_
   rw [← hd2.1]
   refine lCu [dkI d2, ctI] rfl (zb0 d2) (fun w1 hw1 hh1 ha1 => zvm d2 hfo hl1' (by rw [hk1, hkk.1]; exact hkl) (by rw [hk2]; decide) log hl1 hl2 (by rw [hl2', hlen1]; omega) tx oQ w1 hh1 ha1) fun ⟨d3, hd3⟩ => ?_
   refine goA ?_
   exact zbs d3 rfl rfl rfl ⟨hd3.1.trans hok2.1, hd3.2.1.trans hok2.2.1, hd3.2.2⟩ (.cons_cons _ (.cons_cons _ (aD _))) (zb0 d3)
  ·have hne : ((r2.1 : Int) != 0) = true := by simp [he]
   rw [hne]
   simp only [if_neg he]
   refine goA ?_
   exact zbs d2 rfl rfl rfl hok2 (.cons_cons _ (.cons _ (.refl _))) (zb0 d2)
end Go.Proofs.YtkkfifhaobjicaaGreatDoor
namespace Go.Proofs.YtkkfifhaobjicaaGreatDoor
open Go.RowKit Go.Eng
set_option maxRecDepth 100000
abbrev ftT : List ((Dk × Lg → Nat) × (Dk × Lg → Dk × Lg → Prop)) :=
  [(fun x => (zb6 x.1.D).1, fun x x' => zj6 x.1 (zb6 x.1.D).2 x'.1 ∧ x'.2 = x.2),
   (fun x => (zbw x.1.D (za4 x.2.at_) (zbr x.2)).1, fun x x' => zj6 x.1 (zbw x.1.D (za4 x.2.at_) (zbr x.2)).2 x'.1 ∧ x'.2 = { zku x.2 x.1.D with dead := decide ((zbw x.1.D (za4 x.2.at_) (zbr x.2)).1 = 4) })]
def ftV (s : Pg) (d : Dk) : List (FuncId × List Value × List Value) := [(78, [.pointer (some ⟨d.b, 0, none⟩)], []), (95, [.pointer (some ⟨s.bl, 0, none⟩)], [])]
def ftF (D : Dsk) (g : Lg) : Nat × Dsk × Lg :=
 if (zb6 D).1 = 0 then ((zbw (zb6 D).2 (za4 g.at_) (zbr g)).1, (zbw (zb6 D).2 (za4 g.at_) (zbr g)).2, { zku g (zb6 D).2 with dead := decide ((zbw (zb6 D).2 (za4 g.at_) (zbr g)).1 = 4) })
 else ((zb6 D).1, (zb6 D).2, g)
theorem qo0 {d : Dk} {g : Lg} {x : Nat × (Dk × Lg)} (h : qoe ftT (d, g) x) : x.1 = (ftF d.D g).1 ∧ zj6 d (ftF d.D g).2.1 x.2.1 ∧ x.2.2 = (ftF d.D g).2.2 := by
 obtain ⟨⟨d1, g1⟩, ⟨h1, h2⟩, h⟩ := h
 simp only at h1 h2 h
 subst h2
 unfold ftF
 by_cases e1 : (zb6 d.D).1 = 0
 ·rw [if_pos e1] at h ⊢
  obtain ⟨⟨d2, g2⟩, ⟨h3, h4⟩, h⟩ := h
  simp only at h3 h4 h
  rw [h1.2.2] at h3 h4 h
  have hx : x = ((zbw (zb6 d.D).2 (za4 g1.at_) (zbr g1)).1, (d2, g2)) := by
   by_cases e3 : (zbw (zb6 d.D).2 (za4 g1.at_) (zbr g1)).1 = 0
   ·rw [if_pos e3] at h
    rw [e3]; exact h
   ·rw [if_neg e3] at h; exact h
  subst hx
  exact ⟨rfl, h1.trans h3, h4⟩
 ·rw [if_neg e1] at h ⊢
  subst h
  exact ⟨rfl, h1, rfl⟩
def ftI (d : Dk) (g : Lg) (k : Nat) (x : Dk × Lg) : Prop := match k with
 | 0 => x = (d, g)
 | 1 => zj6 d (zb6 d.D).2 x.1 ∧ (zb6 d.D).1 = 0 ∧ x.2 = g
 | _ => True
def ftB (s : Pg) (x : Dk × Lg) : List Eng.Item := [pgI { s with g := x.2 } x.1, dkI x.1, ctI]
theorem zmd (s : Pg) (x : Dk × Lg) : ∀ it ∈ ftB s x, it.Stable none' := zr7 _ _
theorem ql9 (s : Pg) (d : Dk) (ok : d.D.Ok) (hkl : d.D.keep.length ≤ 1000000) (hwl : d.D.wait.length ≤ 1000000) (hgo : s.g.h.Ok) (hnx : s.g.next < 18446744073709551616) (hat : s.g.at_ = 0 ∨ s.g.at_ = 1) (hgd : s.g.dead = false) :
  ∀ (k : Nat) (f : FuncId × List Value × List Value) (t : (Dk × Lg → Nat) × (Dk × Lg → Dk × Lg → Prop)) (x : Dk × Lg), (ftV s d)[k]? = some f → ftT[k]? = some t → ftI d s.g k x →
   zbu Tryz.prog f.1 = true ∧ ∀ w, (∀ it ∈ ftB s x, za1 it w) → (ftB s x).Pairwise Eng.Item.Apart → Ct Tryz.prog f.1 (f.2.1 ++ f.2.2).toArray w (zan (ftB s x)) (fun _ : Dk × Lg => .int .i64 (t.1 x : Nat)) (t.2 x) (fun x' => ftB s x') := by
 intro k f t x hf ht hI
 match k, hf, ht, hI with
 | 0, hf, ht, hI =>
  cases hf; cases ht
  have hI : x = (d, s.g) := hI
  subst hI
  refine ⟨kQ, fun w hw ha => ?_⟩
  refine Ct.conv (fun d' => (d', s.g)) (pre2 := [dkI d]) (rest := [pgI s d, ctI]) ?_ (by intro it hm; rcases hm with _ | ⟨_, hm⟩ <;> first | exact zad _ | exact (nomatch hm)) (fun hh ha2 => zkf d ok hkl oQ w hh) (fun _ _ => rfl) (fun d' hd' => ⟨hd', rfl⟩) (zmd s) (fun d' w' hd' h => ?_)
  ·exact (Hp.begin hw ha _ (fun _ h => h)).pick [1, 0, 2] rfl rfl
  ·have e : pgI s d = pgI s d' := (qmv hd'.1).symm
   rw [e] at h
   exact h.pick [1, 0, 2] rfl rfl
 | 1, hf, ht, hI =>
  cases hf; cases ht
  obtain ⟨d1, g1⟩ := x
  obtain ⟨hd1, e1, rfl⟩ : zj6 d (zb6 d.D).2 d1 ∧ (zb6 d.D).1 = 0 ∧ g1 = s.g := hI
  have hk2 := zmb e1
  have hDD := hd1.2.2
  refine ⟨kQ, fun w hw ha => ?_⟩
  refine Ct.conv (fun d' => (d', { zku s.g d1.D with dead := decide ((zbw d1.D (za4 s.g.at_) (zbr s.g)).1 = 4) })) (pre2 := [lgI s.bl d1 s.g, dkI d1, ctI]) (rest := [pgC s d1, zd8 .i64 s.kb (toP s.K), zd8 .i64 s.db (toB s.R), zd8 .i64 s.cb (toP s.C)]) ?_ (by intro it hm; rcases hm with _ | ⟨_, hm⟩ <;> first | exact zac _ _ _ | exact zb0 d1 it hm) (fun hh ha2 => qdq s.bl d1 s.g (by rw [hDD]; exact zix ok) (by rw [hDD, hk2.1]; exact hkl) (by rw [hDD, hk2.2]; decide) hgo hnx hat hgd w hh ha2) (fun _ _ => rfl) (fun d' hd' => ⟨hd', rfl⟩) (zmd s) (fun d' w' hd' h => ?_)
  ·exact (zi2 (s := s) (m := [dkI d1, ctI]) (Hp.begin hw ha _ (fun _ h => h))).pick [1, 5, 6, 0, 2, 3, 4] rfl rfl
  ·have e : pgC s d1 = pgC s d' := by unfold pgC pgA; rw [hd'.1]
   rw [e] at h
   exact zgc (s := { s with g := { zku s.g d1.D with dead := decide ((zbw d1.D (za4 s.g.at_) (zbr s.g)).1 = 4) } }) (m := [dkI d', ctI]) (h.pick [3, 0, 4, 5, 6, 1, 2] rfl rfl)
 | k + 2, hf, _, _ => cases hf
theorem qiq (s : Pg) (d : Dk) (bq : Nat) (ok : d.D.Ok) (hkl : d.D.keep.length ≤ 1000000) (hwl : d.D.wait.length ≤ 1000000) (hgo : s.g.h.Ok) (hnx : s.g.next < 18446744073709551616) (hat : s.g.at_ = 0 ∨ s.g.at_ = 1) (hgd : s.g.dead = false) (w : World) (hw : ∀ it ∈ [pgI s d, dkI d, ctI, fvI bq 2 (ftV s d)], za1 it w) (ha : [pgI s d, dkI d, ctI, fvI bq 2 (ftV s d)].Pairwise Eng.Item.Apart) :
  Ct Tryz.prog 94 #[.slice (some ⟨bq, 0, none⟩) 2 2] w (zan [pgI s d, dkI d, ctI, fvI bq 2 (ftV s d)]) (fun _ : Dk => .int .i64 ((ftF d.D s.g).1 : Nat)) (zj6 d (ftF d.D s.g).2.1) (fun d' => [pgI { s with g := (ftF d.D s.g).2.2 } d', dkI d', ctI]) := by
 have hI : ∀ k (t : (Dk × Lg → Nat) × (Dk × Lg → Dk × Lg → Prop)) x x', ftT[k]? = some t → ftI d s.g k x → t.2 x x' → t.1 x = 0 → ftI d s.g (k + 1) x' := by
  intro k t x x' ht hI h2 h1
  match k, ht, hI with
  | 0, ht, hI =>
   cases ht
   have hI : x = (d, s.g) := hI
   subst hI
   exact ⟨h2.1, h1, h2.2⟩
  | 1, ht, hI => trivial
  | k + 2, ht, _ => cases ht
 have h := qeb (ftB s) (ftV s d) ftT rfl (ftI d s.g) (d, s.g) rfl (zmd s) (by show (2 : Nat) ≤ 1000; decide) (ql9 s d ok hkl hwl hgo hnx hat hgd) hI bq 2 w hw ha
 unfold Ct at h ⊢
 refine h.mono ?_
 rintro e w' ⟨⟨e1, d', g'⟩, he, hx, hi⟩
 obtain ⟨h1, h2, h3⟩ := qo0 hx
 simp only at h1 h2 h3 he
 subst h1 h3
 exact ⟨d', he, h2, hi⟩
end Go.Proofs.YtkkfifhaobjicaaGreatDoor
