/- slices.Sort and slices.Sorted of whole numbers. -/
/- package pages: written. -/
/- package pages: text. -/
/- package pages: images. -/
/- package pages: all, whatever its steps. -/
/- package pages: out. -/
/- package pages: out. -/
/- The two steps of an assignment to a map's entry among others: the entry is found or made, then it is stored. -/
import Derived.Shelf.SortM.Plain
import Derived.Shelf.SortM.SortNone
import Derived.Sort.OwnSortedInts
import Derived.Test.YtkkfifhaobjicaaGreatDoorHb28
import Derived.Test.YtkkfifhaobjicaaGreatDoorHb29
import Derived.Test.YtkkfifhaobjicaaGreatDoorHb15
namespace Go.Proofs.YtkkfifhaobjicaaGreatDoor
open Go.Shelf
def qez : Go.Shelf.Ren := ⟨fun | 5 => 165 | 8 => 186 | 7 => 185 | 19 => 203 | 20 => 204 | 10 => 194 | 11 => 195 | 12 => 196 | 13 => 197 | 14 => 198 | 15 => 199 | 16 => 200 | 17 => 201 | 18 => 202 | 30 => 206 | 31 => 207 | 32 => 208 | 33 => 209 | 34 => 210 | 35 => 211 | 40 => 212 | n => n, fun | 23 => 99 | 25 => 3 | 3 => 3 | 32 => 122 | 22 => 99 | 0 => 0 | 44 => 249 | 46 => 79 | 4 => 4 | 36 => 268 | 35 => 267 | 41 => 85 | 5 => 5 | 9 => 9 | 53 => 276 | 57 => 280 | 63 => 282 | 64 => 283 | n => n, fun | n => n⟩
theorem qm7 : Go.Proofs.SlLaysM.n5 Tryz.prog qez := {
 mixed := by kernel_rfl
 f5 := ⟨Tryz.f165.name, by decide, Tryz.func165.trans (congrArg some (by kernel_rfl))⟩
 f7 := ⟨Tryz.f185.name, by decide, Tryz.func185.trans (congrArg some (by kernel_rfl))⟩
 f8 := Tryz.func186.trans (congrArg some (by kernel_rfl))
 f10 := ⟨Tryz.f194.name, by decide, Tryz.func194.trans (congrArg some (by kernel_rfl))⟩
 f11 := ⟨Tryz.f195.name, by decide, Tryz.func195.trans (congrArg some (by kernel_rfl))⟩
 f12 := ⟨Tryz.f196.name, by decide, Tryz.func196.trans (congrArg some (by kernel_rfl))⟩
 f13 := ⟨Tryz.f197.name, by decide, Tryz.func197.trans (congrArg some (by kernel_rfl))⟩
 f14 := ⟨Tryz.f198.name, by decide, Tryz.func198.trans (congrArg some (by kernel_rfl))⟩
 f15 := ⟨Tryz.f199.name, by decide, Tryz.func199.trans (congrArg some (by kernel_rfl))⟩
 f16 := ⟨Tryz.f200.name, by decide, Tryz.func200.trans (congrArg some (by kernel_rfl))⟩
 f17 := ⟨Tryz.f201.name, by decide, Tryz.func201.trans (congrArg some (by kernel_rfl))⟩
 f18 := ⟨Tryz.f202.name, by decide, Tryz.func202.trans (congrArg some (by kernel_rfl))⟩
 f19 := Tryz.func203.trans (congrArg some (by kernel_rfl))
 f20 := Tryz.func204.trans (congrArg some (by kernel_rfl))
 f30 := ⟨Tryz.f206.name, by decide, Tryz.func206.trans (congrArg some (by kernel_rfl))⟩
 f31 := Tryz.func207.trans (congrArg some (by kernel_rfl))
 f32 := Tryz.func208.trans (congrArg some (by kernel_rfl))
 f33 := ⟨Tryz.f209.name, by decide, Tryz.func209.trans (congrArg some (by kernel_rfl))⟩
 f34 := ⟨Tryz.f210.name, by decide, Tryz.func210.trans (congrArg some (by kernel_rfl))⟩
 f35 := ⟨Tryz.f211.name, by decide, Tryz.func211.trans (congrArg some (by kernel_rfl))⟩
 f40 := ⟨Tryz.f212.name, by decide, Tryz.func212.trans (congrArg some (by kernel_rfl))⟩
 t0 := Tryz.underlying0
 a0 := Tryz.isAgg0
 z0 := Tryz.sizeOf0
 v0 := Tryz.zeroValue0
 t3 := Tryz.underlying3
 a3 := Tryz.isAgg3
 z3 := Tryz.sizeOf3
 v3 := Tryz.zeroValue3
 t4 := Tryz.underlying4
 a4 := Tryz.isAgg4
 z4 := Tryz.sizeOf4
 v4 := Tryz.zeroValue4
 t5 := Tryz.underlying5
 a5 := Tryz.isAgg5
 z5 := Tryz.sizeOf5
 v5 := Tryz.zeroValue5
 t9 := Tryz.underlying9
 a9 := Tryz.isAgg9
 z9 := Tryz.sizeOf9
 v9 := Tryz.zeroValue9
 t22 := Tryz.underlying99
 a22 := Tryz.isAgg99
 z22 := Tryz.sizeOf99
 v22 := Tryz.zeroValue99
 t23 := Tryz.underlying99
 a23 := Tryz.isAgg99
 z23 := Tryz.sizeOf99
 v23 := Tryz.zeroValue99
 t25 := Tryz.underlying3
 a25 := Tryz.isAgg3
 z25 := Tryz.sizeOf3
 v25 := Tryz.zeroValue3
 t32 := Tryz.underlying122
 a32 := Tryz.isAgg122
 z32 := Tryz.sizeOf122
 v32 := Tryz.zeroValue122
 t35 := Tryz.underlying267
 a35 := Tryz.isAgg267
 z35 := Tryz.sizeOf267
 v35 := Tryz.zeroValue267
 t36 := Tryz.underlying268
 a36 := Tryz.isAgg268
 z36 := Tryz.sizeOf268
 v36 := Tryz.zeroValue268
 t41 := Tryz.underlying85
 a41 := Tryz.isAgg85
 z41 := Tryz.sizeOf85
 v41 := Tryz.zeroValue85
 t44 := Tryz.underlying249
 a44 := Tryz.isAgg249
 z44 := Tryz.sizeOf249
 v44 := Tryz.zeroValue249
 t46 := Tryz.underlying79
 a46 := Tryz.isAgg79
 z46 := Tryz.sizeOf79
 v46 := Tryz.zeroValue79
 t53 := Tryz.underlying276
 a53 := Tryz.isAgg276
 z53 := Tryz.sizeOf276
 v53 := Tryz.zeroValue276
 t57 := Tryz.underlying280
 a57 := Tryz.isAgg280
 z57 := Tryz.sizeOf280
 v57 := Tryz.zeroValue280
 t63 := Tryz.underlying282
 a63 := Tryz.isAgg282
 z63 := Tryz.sizeOf282
 v63 := Tryz.zeroValue282
 t64 := Tryz.underlying283
 a64 := Tryz.isAgg283
 z64 := Tryz.sizeOf283
 v64 := Tryz.zeroValue283 }
open Go.RowKit Go.Eng
set_option maxRecDepth 100000
set_option maxHeartbeats 40000000
def zli (L : List Nat) : List Nat := L.mergeSort fun x y => decide (x ≤ y)
theorem qht (L : List Nat) : (L.map fun n : Nat => (n : Int)).mergeSort (fun x y => decide (x ≤ y)) = (zli L).map fun n : Nat => (n : Int) := by
 unfold zli
 refine (List.map_mergeSort (f := fun n : Nat => (n : Int)) fun a _ b _ => ?_).symm
 simp
theorem zxs (o : Option (Nat × Nat)) (L : List Nat) (hL : L.length ≤ 1000000000) (w : World) (hw : ∀ it ∈ [own 3 1 o L.length (zfn L)], za2 it w) :
  Ct Tryz.prog 165 #[slV o L.length] w (zap [own 3 1 o L.length (zfn L)]) (fun _ : Unit => .tuple #[]) (fun _ => True) (fun _ => [own 3 1 o L.length (zfn (zli L))]) := by
 have hin := hw _ (.head _)
 obtain ⟨⟨hl, hp⟩, -, hfo⟩ := hin
 have hlen : (zli L).length = L.length := List.length_mergeSort L
 have hiv : zfn L = (L.map fun n : Nat => (n : Int)).map (Value.int .i64) := by simp [zfn, Function.comp_def]
 have hivs : zfn (zli L) = ((zli L).map fun n : Nat => (n : Int)).map (Value.int .i64) := by simp [zfn, Function.comp_def]
 have hst : ∀ o : Option (Nat × Nat), ∀ it ∈ [own 3 1 o L.length (zfn (zli L))], it.Stable none' := by simp [zab]
 rcases o with _ | ⟨b, c⟩
 ·have h0 : L.length = 0 := hp
  obtain rfl : L = [] := List.eq_nil_of_length_eq_zero h0
  have h1 := AnyM.slices_Sort_int_none qm7 none 0 w
  unfold Ct
  refine Calls.mono h1 ?_
  rintro e w' ⟨rfl, rfl⟩
  refine ⟨(), rfl, trivial, .refl _ _, fun it hm => ?_, .cons (fun _ h => nomatch h) .nil⟩
  obtain rfl : it = own 3 1 none 0 (zfn (zli [])) := by simpa using hm
  exact ⟨⟨by rw [hivs]; simp [zli], rfl⟩, zab _ _ _ _ _ _, fun k hk => ⟨hfo k hk, fun _ => ⟨_, .head _, hk⟩⟩⟩
 ·obtain ⟨h1, h2, cur, hb, hc, ht⟩ := hp
  rw [Nat.mul_one] at ht hc
  have hbl : b < w.heap.size := (Array.getElem?_eq_some_iff.1 hb).1
  have hH : Go.Sort.Holds (Value.int .i64) w b 0 (L.map fun n : Nat => (n : Int)).toArray := holds_of_blockI hb (by rw [List.length_map, ht, hiv])
  have h3 := AnyM.slices_Sort_int qm7 b 0 c (L.map fun n : Nat => (n : Int)) w hH hbl (by rw [List.length_map]; omega)
  rw [List.length_map, qht] at h3
  unfold Ct
  refine Calls.mono h3 ?_
  rintro e w' ⟨rfl, n, os, rfl⟩
  obtain ⟨g1, g2, g3, g4, g5⟩ := grownBy_sortedI (w := w) (g := b) (n := n) (os := os) ((zli L).map fun n : Nat => (n : Int)).toArray
  have hb' := heap_sortedI (n := n) (os := os) ((zli L).map fun n : Nat => (n : Int)).toArray hb
  refine ⟨(), rfl, trivial, ⟨g1, g2, g3, g4, fun k hk hF => g5 k hk (fun e => hF ⟨_, .head _, ⟨c, by cases e; rfl⟩⟩)⟩, fun it hm => ?_, .cons (fun _ h => nomatch h) .nil⟩
  obtain rfl : it = own 3 1 (some (b, c)) L.length (zfn (zli L)) := by simpa using hm
  refine ⟨⟨by rw [← hlen]; simp [zfn], h1, h2, _, hb', by simp [Go.Sort.putCells, hc], ?_⟩, zab _ _ _ _ _ _, fun k hk => ⟨Nat.lt_of_lt_of_le (hfo k hk) g4, fun _ => ⟨_, .head _, hk⟩⟩⟩
  have := take_putCellsI cur ((zli L).map fun n : Nat => (n : Int)) (by rw [List.length_map, hlen]; omega)
  rw [List.length_map, hlen] at this
  rw [Nat.mul_one, this, hivs]
theorem zla {α : Type} [DecidableEq α] : ∀ {l L : List α}, l.Nodup → (∀ x ∈ l, x ∈ L) → l.length ≤ L.length
 | [], _, _, _ => Nat.zero_le _
 | x :: l, L, hn, h => by
  have hx := h x (.head _)
  have hn' := List.nodup_cons.1 hn
  have := zla (l := l) (L := L.erase x) hn'.2 fun y hy => (List.mem_erase_of_ne (fun e : y = x => hn'.1 (by rw [← e]; exact hy))).2 (h y (.tail _ hy))
  rw [List.length_erase_of_mem hx] at this
  have := List.length_pos_of_mem hx
  rw [List.length_cons]
  omega
theorem qd0 {L L' : List Nat} (h : L.Perm L') : zli L = zli L' := by
 unfold zli
 have tr : ∀ a b c : Nat, decide (a ≤ b) = true → decide (b ≤ c) = true → decide (a ≤ c) = true := fun a b c h1 h2 => by simp only [decide_eq_true_eq] at *; omega
 have to : ∀ a b : Nat, (decide (a ≤ b) || decide (b ≤ a)) = true := fun a b => by simp only [Bool.or_eq_true, decide_eq_true_eq]; omega
 refine List.Perm.eq_of_pairwise (le := fun a b => decide (a ≤ b) = true) (fun a b _ _ h1 h2 => ?_) (List.pairwise_mergeSort tr to L) (List.pairwise_mergeSort tr to L') (((List.mergeSort_perm L _).trans h).trans (List.mergeSort_perm L' _).symm)
 simp only [decide_eq_true_eq] at h1 h2
 omega
theorem znn (x b : Nat) (A : zck) (hA : A.length ≤ 1000000000) (w : World) (hw : ∀ it ∈ kyI x b A, za2 it w) (ha : (kyI x b A).Pairwise Eng.Item.Apart) :
  Ct Tryz.prog 135 #[kyV x] w (zap (kyI x b A)) (fun o : Option (Nat × Nat) => slV o A.length) (fun _ => True) (fun o => [own 3 1 o A.length (zfn (zli (zo8 A))), zd6 .i64 b A]) := by
 refine zbd [_] _ Tryz.func135 rfl rfl hw ha ?_
 simp only [zaa]
 unfold kyV
 refine goA ?_
 have hmo : ∀ it ∈ [zd6 .i64 b A], it.Stable none' := by simp [za6]
 have hkl : (zo8 A).length = A.length := by simp [zo8]
 refine zju (m' := kyI x b A ++ []) (by rw [List.append_nil]) ?_
 refine zae rfl (zba (pre := kyI x b A) (m := []) rfl (by kernel_rfl) rfl (zmp x b A) (fun w1 hw1 hh1 ha1 => zqt (f := 166) (cs := [.pointer (some ⟨x, 0, none⟩)]) (by kernel_rfl) (qfq x b A) (zmp x b A) hmo (fun k y h => by
  have h1 : (k ++ [y]).length ≤ (zo8 A).length := zla h.1 h.2
  rw [List.length_append, hkl] at h1
  simp at h1
  omega) w1 hh1 ha1)) fun ⟨⟨o, out⟩, hS⟩ => ?_
 dsimp only at hS ⊢
 have hol : out.length = A.length := by rw [hS.length_eq, hkl]
 have hso : zli out = zli (zo8 A) := qd0 hS
 refine goA ?_
 refine zae rfl (zba (pre := [own 3 1 o out.length (zfn out)]) rfl (by kernel_rfl) rfl (by simp [zab]) (fun w1 hw1 hh1 ha1 => zxs o out (by omega) w1 hh1)) fun ⟨_, _⟩ => ?_
 rw [hso, hol]
 refine goA ?_
 exact zbw o rfl rfl rfl trivial (.cons_cons _ (.cons_cons _ (.refl _))) (by simp [zab, za6])
end Go.Proofs.YtkkfifhaobjicaaGreatDoor
namespace Go.Proofs.YtkkfifhaobjicaaGreatDoor
open Go.RowKit Go.Eng Go.Eng.Bm
set_option maxRecDepth 100000
set_option maxHeartbeats 40000000
theorem qku {s : Pg} {d d' : Dk} (h : d'.b = d.b) : pgI s d' = pgI s d := by unfold pgI pgL pgC lgI pgA lgA; rw [h]
def zdw (A : PR) : PR := (zli (A.map (·.1))).map fun i => (i, (A.lookup i).getD [])
def wsP (secs : Nat) (A : PR) : List (Nat × Bys) := (zdw A).map fun p => (2 + secs + p.1, p.2)
theorem znu (L : List Nat) : (zli L).length = L.length := List.length_mergeSort L
theorem zi7 {L : List Nat} {x : Nat} : x ∈ zli L ↔ x ∈ L := List.mem_mergeSort
theorem zkr {A : PR} {i : Nat} (h : i ∈ A.map (·.1)) : ∃ b, A.lookup i = some b := by
 obtain ⟨p, hp, rfl⟩ := List.mem_map.1 h
 cases hl : A.lookup p.1 with
 | some b => exact ⟨b, rfl⟩
 | none =>
  have : ∀ B : PR, p ∈ B → B.lookup p.1 ≠ none := by
   intro B
   induction B with
   | nil => intro h; cases h
   | cons q B ih =>
    intro h hn
    rw [List.lookup_cons] at hn
    by_cases e : p.1 = q.1
    ·rw [e] at hn; simp at hn
    ·rcases List.mem_cons.1 h with rfl | h
     ·exact e rfl
     ·rw [show (p.1 == q.1) = false by simpa using e] at hn
      exact ih h hn
  exact absurd hl (this A hp)
theorem zsf {A : PR} {n : Nat} (h : A.Ok n) : (zdw A).Ok n := by
 intro p hp
 obtain ⟨i, hi, rfl⟩ := List.mem_map.1 hp
 obtain ⟨b, hb⟩ := zkr (zi7.1 hi)
 have := h _ (zcm hb)
 simp only [hb, Option.getD_some]
 exact this
theorem zjv (d : Dk) (s : Pg) (lb : Nat) (A : PR) : ∀ it ∈ [dkI d, pgI s d, zd6 .i64 lb (toP A)], it.Stable none' := by
 intro it hm
 rcases hm with _ | ⟨_, _ | ⟨_, _ | ⟨_, hm⟩⟩⟩
 ·exact zad _
 ·exact zco _ _
 ·exact za6 _ _ _ _
 ·exact nomatch hm
theorem zso (s : Pg) (d : Dk) (lb : Nat) (A : PR) (ok : d.D.Ok) (hkl : d.D.keep.length ≤ 1000000) (hwl : d.D.wait.length + A.length ≤ 1000000) (hn : s.n ≤ 1024) (hsecs : s.g.h.secs < 65536) (hA : A.Ok s.n) (w : World)
  (hw : ∀ it ∈ [dkI d, pgI s d, zd6 .i64 lb (toP A)], za2 it w) (ha : [dkI d, pgI s d, zd6 .i64 lb (toP A)].Pairwise Eng.Item.Apart) :
  Ct Tryz.prog 93 #[.pointer (some ⟨s.b, 0, none⟩), .map (some lb)] w (zap [dkI d, pgI s d, zd6 .i64 lb (toP A)]) (fun _ : Dk => .int .i64 ((zb6 d.D (wsP s.g.h.secs A)).1 : Nat)) (zjq d (zb6 d.D (wsP s.g.h.secs A)).2) (fun d' => [dkI d', pgI s d', zd6 .i64 lb (toP A)]) := by
 refine zbd [_, _] _ Tryz.func93 rfl rfl hw ha ?_
 simp only [zaa, Nat.reduceAdd]
 refine goA ?_
 refine ze5 rfl rfl (by kernel_rfl) rfl (fun w1 hw1 => qa3 lb w1) fun x hx => ?_
 refine goA ?_
 refine za1 [0, 3, 1, 2] rfl rfl ?_
 have hkl2 : (toP A).length = A.length := by simp [toP]
 have hke : zo8 (toP A) = A.map (·.1) := by simp [zo8, toP, Function.comp_def]
 refine zae rfl (zba (pre := kyI x lb (toP A)) rfl (by kernel_rfl) rfl (zmp _ _ _) (fun w1 hw1 hh1 ha1 => znn x lb (toP A) (by omega) w1 hh1 ha1)) fun ⟨o, _⟩ => ?_
 rw [hkl2, hke]
 dsimp only
 refine zea (fun w hw => (zav (hw.item (own 3 1 o A.length (zfn (zli (A.map (·.1))))) (.head _)).1)) fun ⟨hsl, hcap⟩ => ?_
 rw [hsl]
 refine goA ?_
 have hrl : (zdw A).length = A.length := by rw [zdw, List.length_map, znu, List.length_map]
 have hwsl : (wsP s.g.h.secs A).length = A.length := by rw [wsP, List.length_map, hrl]
 have hro := zsf hA
 have hwsk : ∀ k (hk : k < A.length), (wsP s.g.h.secs A).take (k + 1) = (wsP s.g.h.secs A).take k ++ [(2 + s.g.h.secs + ((zdw A)[k]'(by omega)).1, ((zdw A)[k]'(by omega)).2)] := fun k hk => by
  rw [List.take_add_one, wsP, List.getElem?_map, List.getElem?_eq_getElem (by omega)]
  rfl
 have hokk : ∀ k, (zb6 d.D ((wsP s.g.h.secs A).take k)).2.Ok := fun k => ziw _ _ ok
 have hkeepk : ∀ k, k ≤ A.length → (zb6 d.D ((wsP s.g.h.secs A).take k)).1 = 0 → (zb6 d.D ((wsP s.g.h.secs A).take k)).2.keep = d.D.keep ∧ (zb6 d.D ((wsP s.g.h.secs A).take k)).2.wait.length = d.D.wait.length + k := fun k hk h0 => by
  have := zij ((wsP s.g.h.secs A).take k) d.D ok h0
  rw [List.length_take, hwsl, Nat.min_eq_left hk] at this
  exact this
 have hbad : ∀ k, (zb6 d.D ((wsP s.g.h.secs A).take k)).1 ≠ 0 → zb6 d.D (wsP s.g.h.secs A) = zb6 d.D ((wsP s.g.h.secs A).take k) := fun k hk => by
  have h1 := zn2 ((wsP s.g.h.secs A).take k) ((wsP s.g.h.secs A).drop k) d.D hk
  rw [List.take_append_drop] at h1
  exact h1
 have hall : zb6 d.D ((wsP s.g.h.secs A).take A.length) = zb6 d.D (wsP s.g.h.secs A) := by rw [List.take_of_length_le (by omega)]
 refine zct (α := Nat × Dk) (fun y => [(0, .pointer (some ⟨s.b, 0, none⟩)), (1, .map (some lb)), (11, .slice (slA o) A.length (slC o)), (12, .int .i64 A.length), (13, .int .i64 y.1)]) (fun y => y.1 ≤ A.length ∧ (zb6 d.D ((wsP s.g.h.secs A).take y.1)).1 = 0 ∧ zjq d (zb6 d.D ((wsP s.g.h.secs A).take y.1)).2 y.2) (fun y => [dkI y.2, pgC s d, lgI s.bl d s.g, zd6 .i64 s.kb (toP s.K), zd6 .i64 s.db (toB s.R), zd6 .i64 s.cb (toP s.C), zd6 .i64 lb (toP A), own 3 1 o A.length (zfn (zli (A.map (·.1))))]) (fun y => A.length - y.1) (0, d) ⟨rfl, rfl, rfl, rfl, rfl, trivial⟩ ⟨Nat.zero_le _, rfl, rfl, rfl, rfl⟩ (fun w hw => (zim (m := [dkI d, zd6 .i64 lb (toP A), own 3 1 o A.length (zfn (zli (A.map (·.1))))]) (hw.pick [3, 2, 1, 0] rfl rfl)).pick [5, 0, 1, 2, 3, 4, 6, 7] rfl rfl) fun ⟨k, d1⟩ ⟨hk, h0, hd1⟩ => ?_
 simp only at hk h0 hd1 ⊢
 by_cases hkn : k < A.length
 ·have hst : zb6 d.D ((wsP s.g.h.secs A).take (k + 1)) = zb1 (zb6 d.D ((wsP s.g.h.secs A).take k)).2 (2 + s.g.h.secs + ((zdw A)[k]'(by omega)).1) ((zdw A)[k]'(by omega)).2 := by
   rw [hwsk k hkn, zpd, if_pos h0]
  obtain ⟨hkp, hwt⟩ := hkeepk k (by omega) h0
  have hokd := hokk k
  have hbad2 := hbad (k + 1)
  generalize zb6 d.D ((wsP s.g.h.secs A).take k) = r at *
  obtain ⟨hd1a, hd1b, hd1c⟩ := hd1
  rw [← hd1c] at hkp hwt hokd hst
  have hin := hro _ (List.getElem_mem (l := zdw A) (n := k) (by omega))
  have hsk : (zli (A.map (·.1)))[k]? = some ((zdw A)[k]'(by omega)).1 := by
   rw [List.getElem?_eq_getElem (by rw [znu, List.length_map]; exact hkn)]
   simp [zdw]
  have hlk : A.lookup ((zdw A)[k]'(by omega)).1 = some ((zdw A)[k]'(by omega)).2 := by
   have h1 : ((zdw A)[k]'(by omega)).1 ∈ A.map (·.1) := zi7.1 (List.mem_of_getElem? hsk)
   obtain ⟨b, hb⟩ := zkr h1
   rw [hb]
   simp only [zdw, List.getElem_map] at hb ⊢
   rw [hb]
   rfl
  generalize (zdw A)[k]'(by omega) = p at hst hin hsk hlk
  obtain ⟨i, bs⟩ := p
  simp only at hst hin hsk hlk
  rcases o with _ | ⟨ob, oc⟩
  ·refine zf2 (fun w hw => (hw.item (own 3 1 none A.length (zfn (zli (A.map (·.1))))) (by simp)).1.2) fun h => ?_
   exact absurd h (by omega)
  have hcell : ∀ {m : List Eng.Item} {w2 : World} {F2 : Nat → Prop} (w' : World), Hp w2 F2 m w' → own 3 1 (some (ob, oc)) A.length (zfn (zli (A.map (·.1)))) ∈ m → w'.cell? ⟨ob, k, none⟩ = some (.int .i64 (i : Int)) := fun w' hw' hm => zbo (hw'.item _ hm).1 k _ (by simp [zfn, hsk])
  simp only [slA, slC]
  have hbl : (zaf bs).length = 512 := by rw [zar, hin.2]
  refine goA ?_
  refine l_w rfl (zaz (v := .int .i64 (i : Int)) rfl rfl (fun w' hw' => by rw [Nat.zero_add]; exact hcell w' hw' (by simp))) ?_
  refine goA ?_
  refine l_w rfl (qh7 (q := .i64) (h := i) (A := toP A) (b := lb) rfl rfl rfl rfl rfl (okI (by omega)) (by simp)) ?_
  rw [zq6, hlk]
  simp only [Option.map_some, Option.getD_some, pgV]
  refine goA ?_
  refine zan rfl rfl fun b7 hb7 => ?_
  refine za0 rfl (zai (cs' := (zaf bs).toArray) rfl rfl rfl (by rw [List.size_toArray, hbl]; rfl) (zel _) (by rw [List.size_toArray, hbl]; rfl)) fun _ => ?_
  refine goA ?_
  refine zde [1, 0, 2, 3, 4, 5, 6, 7, 8] rfl rfl ?_
  refine zaq [1, 2, 3, 4, 5, 6, 7, 8] 14 rfl rfl (by kernel_rfl) ?_
  (repeat first | refine dAv [11] rfl rfl rfl ?_ | refine dno [11] rfl rfl rfl ?_ | refine dT [11] rfl rfl rfl rfl ?_ | refine dF [11] rfl rfl rfl rfl ?_)
  refine d_v [8] rfl rfl (by kernel_rfl) (fun _ h => goH h) rfl rfl (zst (n := 512) rfl rfl rfl rfl) ?_
  refine zau 8 ⟨by kernel_rfl, by decide⟩ rfl rfl (zag rfl (by kernel_rfl) rfl (fun w1 hw1 => zgp s.bl d s.g w1 (za2.of (hw1.item (lgI s.bl d s.g) (by simp)) (zac _ _ _)))) (fun _ _ h => goH h) fun _ => ?_
  refine goE ?_
  refine zau 10 ⟨by kernel_rfl, by decide⟩ rfl rfl (zag rfl (by kernel_rfl) rfl (fun w1 hw1 => zfq s.g.h.secs i (by omega) (by omega) w1)) (fun _ _ h => goH h) fun _ => ?_
  refine goE ?_
  rw [← hd1a]
  refine zau 12 ⟨by kernel_rfl, by decide⟩ rfl rfl (zba (pre := [dkI d1]) rfl (by kernel_rfl) rfl (by intro it hm; rcases hm with _ | ⟨_, hm⟩ <;> first | exact zad _ | exact (nomatch hm)) (fun w1 hw1 hh1 ha1 => zxh d1 hokd (by rw [hkp]; exact hkl) (by rw [hwt]; omega) (2 + s.g.h.secs + i) (by omega) bs 512 hin.2 (some ⟨b7, 0, none⟩) 512 (by decide) w1 hh1 (fun w2 hw2 => .inr ⟨b7, 0, rfl, za7 (hw1.still (y := pt b7 (.cells (zaf bs).toArray 89 (0, 0))) (.head _) (zac _ _ _) hw2)⟩))) (fun _ _ h => goH h) fun ⟨d2, hd2⟩ => ?_
  refine goE ?_
  refine zbs (by kernel_rfl) ?_
  dsimp only
  rw [← hst] at hd2 ⊢
  have hok2 : zjq d (zb6 d.D ((wsP s.g.h.secs A).take (k + 1))).2 d2 := ⟨hd2.1.trans hd1a, hd2.2.1.trans hd1b, hd2.2.2⟩
  refine goA ?_
  by_cases he : (zb6 d.D ((wsP s.g.h.secs A).take (k + 1))).1 = 0
  ·have hne : (((zb6 d.D ((wsP s.g.h.secs A).take (k + 1))).1 : Int) != 0) = false := by simp [he]
   rw [hne]
   refine goA ?_
   exact zay (k + 1, d2) ⟨rfl, rfl, rfl, rfl, rfl, trivial⟩ ⟨hkn, he, hok2⟩ (fun w hw => by exact hw.pick [0, 2, 3, 4, 5, 6, 7, 8] rfl rfl) (by show A.length - (k + 1) < A.length - k; omega)
  ·have hne : (((zb6 d.D ((wsP s.g.h.secs A).take (k + 1))).1 : Int) != 0) = true := by simp [he]
   rw [hne, hbad2 he]
   refine goA ?_
   refine zb3 (m' := [dkI d2, pgI s d2, zd6 .i64 lb (toP A)]) (fun w' hw' => ?_) (zbw d2 rfl rfl rfl hok2 (.refl _) (zjv _ _ _ _))
   rw [qku hok2.1]
   exact (zf5 (m := [dkI d2, zd6 .i64 lb (toP A)]) (hw'.pick [2, 3, 4, 5, 6, 0, 7] rfl rfl)).pick [1, 0, 2] rfl rfl
 ·obtain rfl : k = A.length := by omega
  rw [hall] at h0 hd1
  rw [h0]
  refine goA ?_
  refine zb3 (m' := [dkI d1, pgI s d1, zd6 .i64 lb (toP A)]) (fun w' hw' => ?_) (zbw d1 rfl rfl rfl hd1 (.refl _) (zjv _ _ _ _))
  rw [qku hd1.1]
  exact (zf5 (m := [dkI d1, zd6 .i64 lb (toP A)]) (hw'.pick [1, 2, 3, 4, 5, 0, 6] rfl rfl)).pick [1, 0, 2] rfl rfl
end Go.Proofs.YtkkfifhaobjicaaGreatDoor
namespace Go.Proofs.YtkkfifhaobjicaaGreatDoor
open Go.RowKit Go.Eng Go.Eng.Bm
set_option maxRecDepth 100000
def zd0 (R : PR) : Bys := R.flatMap fun p => beN 2 p.1 ++ p.2
theorem zol {R : PR} {n : Nat} (h : R.Ok n) : (zd0 R).length = 514 * R.length := by
 induction R with
 | nil => rfl
 | cons p R ih =>
  have h1 := (h p (.head _)).2
  have h2 := ih fun q hq => h q (.tail _ hq)
  unfold zd0 at h2 ⊢
  rw [List.flatMap_cons, List.length_append, List.length_append, zao, h1, h2, List.length_cons]
  omega
end Go.Proofs.YtkkfifhaobjicaaGreatDoor
namespace Go.Proofs.YtkkfifhaobjicaaGreatDoor
open Go.RowKit Go.Eng Go.Eng.Bm
set_option maxRecDepth 100000
set_option maxHeartbeats 40000000
def zma (A : PR) (R : PR) : PR := R.foldl (fun A p => zep A p.1 p.2) A
theorem qdy (A R : PR) (p : Nat × Bys) : zma A (R ++ [p]) = zep (zma A R) p.1 p.2 := by simp [zma]
theorem zrw (p : Nat × Bys) (R : PR) : zd0 (p :: R) = beN 2 p.1 ++ (p.2 ++ zd0 R) := by simp [zd0]
theorem zu3 (s : Pg) (d : Dk) (R : PR) (hn : s.n ≤ 1024) (hR : R.Ok s.n) (hRl : R.length ≤ 100000) (w : World) (h : za2 (pgI s d) w) :
  Ct Tryz.prog 92 #[.pointer (some ⟨s.b, 0, none⟩), .string ⟨(zd0 R).toArray⟩] w none' (fun b : Nat => .tuple #[.map (some b), .bool true]) (fun _ => True) (fun b => [zd6 .i64 b (toP (zma [] R))]) := by
 refine zfo [_, _] Tryz.func92 rfl rfl ?_
 have htl := zol hR
 have hbal := bal (zd0 R)
 simp only [zaa, Nat.reduceAdd]
 refine goA ?_
 refine za0 rfl (zy3 rfl rfl rfl rfl) fun ⟨p1, hp1, hp2⟩ => ?_
 dsimp only
 rw [hbal]
 refine goA ?_
 refine ze5 rfl rfl (by kernel_rfl) rfl (fun w1 hw1 => zlb (some ⟨p1.1, 0, none⟩) (zd0 R).length p1.2 (zd0 R) rfl (by omega) w1 (.inr ⟨p1.1, 0, rfl, zk6 (hw1.item (zn9 5 (zd0 R) p1.1 p1.2) (.head _)).1⟩)) fun x hx => ?_
 obtain ⟨b, oD⟩ := x
 simp only at hx ⊢
 have hsD : (own 5 1 oD (zd0 R).length (zaf (zd0 R))).Stable none' := zab _ _ _ _ _ _
 generalize own 5 1 oD (zd0 R).length (zaf (zd0 R)) = D at hx hsD
 refine goA ?_
 refine za0 rfl (zgd (q := .i64) rfl) fun ⟨mb, hmb⟩ => ?_
 refine goA ?_
 refine zct (α := Nat × (Option Addr × Nat)) (fun y => [(0, .pointer (some ⟨s.b, 0, none⟩)), (6, .pointer (some ⟨b, 0, none⟩)), (7, .map (some mb))]) (fun y => y.1 ≤ R.length ∧ zi6 D y.2.1 y.2.2 (zd0 (R.drop y.1))) (fun y => [opI b y.2.1 y.2.2 (zd0 (R.drop y.1), false), D, zd6 .i64 mb (toP (zma [] (R.take y.1)))]) (fun y => R.length - y.1) (0, (slA oD, slC oD)) ⟨rfl, rfl, rfl, trivial⟩ ⟨Nat.zero_le _, hx⟩ (fun w hw => hw.pick [1, 2, 0] rfl rfl) fun ⟨k, y⟩ ⟨hk, hy⟩ => ?_
 simp only at hk hy ⊢
 have htlk := zol (R := R.drop k) (n := s.n) (fun p hp => hR p (List.mem_of_mem_drop hp))
 rw [List.length_drop] at htlk
 by_cases hkn : k < R.length
 ·have hdr : R.drop k = R[k] :: R.drop (k + 1) := (List.getElem_cons_drop ..).symm
  have hpk := hR _ (List.getElem_mem hkn)
  have hik : zma [] (R.take (k + 1)) = zep (zma [] (R.take k)) R[k].1 R[k].2 := by rw [List.take_succ_eq_append_getElem hkn, qdy]
  rw [hdr, zrw] at hy htlk ⊢
  generalize R[k] = p at hpk hik hy htlk ⊢
  obtain ⟨i, bs⟩ := p
  simp only at hpk hik hy htlk ⊢
  obtain ⟨rest, hrest⟩ : ∃ r, zd0 (R.drop (k + 1)) = r := ⟨_, rfl⟩
  rw [hrest] at hy htlk ⊢
  obtain ⟨hin, hbs⟩ := hpk
  have hbl : (zaf bs).length = 512 := by rw [zar, hbs]
  have e1 : opN 2 (beN 2 i ++ (bs ++ rest), false) = (i, (bs ++ rest, false)) := zh9 (by omega) _
  have e2 : opT 512 (bs ++ rest, false) = (bs, (rest, false)) := by rw [← hbs]; exact zp0 bs rest
  refine goA ?_
  refine zae rfl (zag rfl (by kernel_rfl) rfl (fun w1 hw1 => zgi b y.1 y.2 _ w1 (za2.of (hw1.item (opI b y.1 y.2 (beN 2 i ++ (bs ++ rest), false)) (.head _)) (zam _ _ _ _)))) fun _ => ?_
  simp only [htlk]
  refine goA ?_
  refine zae rfl (zba (pre := [opI b y.1 y.2 (beN 2 i ++ (bs ++ rest), false), D]) rfl (by kernel_rfl) rfl (by simp [zam, hsD]) (fun w1 hw1 hh1 ha1 => zh8 i (bs ++ rest, false) e1 hsD hy (.inr (.inl rfl)) (by simp only [htlk]; omega) hh1 ha1)) fun ⟨y1, hy1⟩ => ?_
  simp only at hy1
  have hl2 : (bs ++ rest).length ≤ 1000000000 := by
   rw [List.length_append, zao] at htlk
   omega
  refine goA ?_
  refine zae rfl (zba (pre := [opI b y1.1 y1.2 (bs ++ rest, false), D]) rfl (by kernel_rfl) rfl (by simp [zam, hsD]) (fun w1 hw1 hh1 ha1 => zo3 bs (rest, false) e2 hsD hy1 hl2 hh1 ha1)) fun ⟨y2, hy2⟩ => ?_
  simp only at hy2
  refine goA ?_
  refine zae rfl (zag rfl (by kernel_rfl) rfl (fun w1 hw1 => zeu b y2.1 y2.2 (rest, false) w1 (za2.of (hw1.item (opI b y2.1 y2.2 (rest, false)) (.head _)) (zam _ _ _ _)))) fun _ => ?_
  simp only [Bool.false_eq_true, if_false]
  refine goA ?_
  refine l_w rfl (zaz (v := .int .i64 (s.n : Int)) rfl rfl (fun w' hw' => zqn (h.keep hw') 2 rfl)) ?_
  refine goA ?_
  refine za0 rfl (zy3 rfl rfl rfl rfl) fun ⟨p2, _, _⟩ => ?_
  dsimp only
  rw [bal, hbs]
  refine goA ?_
  refine l_w rfl (zuy rfl rfl (by decide)) ?_
  refine goA ?_
  refine l_w rfl (zfi (xs := zaf bs) (c := (zaf bs).toArray) rfl (by rw [hbl]; rfl) (fun w' hw' => zk6 (hw'.item (zn9 5 bs p2.1 p2.2) (.head _)).1) rfl) ?_
  refine za1 [3, 0, 1, 2] rfl rfl ?_
  refine za0 rfl (zjd (h := i) (v := pgV bs) rfl rfl rfl rfl rfl rfl (okI (by omega))) fun _ => ?_
  rw [← zn6, ← hik]
  refine goA ?_
  exact zay (k + 1, y2) ⟨rfl, rfl, rfl, trivial⟩ ⟨hkn, by show zi6 _ _ _ (zd0 (R.drop (k + 1))); rw [hrest]; exact hy2⟩ (fun w hw => by show Hp _ _ [opI _ _ _ (zd0 (R.drop (k + 1)), false), _, _] w; rw [hrest]; exact hw.pick [2, 3, 0] rfl rfl) (by show R.length - (k + 1) < R.length - k; omega)
 ·obtain rfl : k = R.length := by omega
  have hd0 : R.drop R.length = [] := List.drop_length
  rw [hd0, List.take_length]
  refine goA ?_
  refine zae rfl (zag rfl (by kernel_rfl) rfl (fun w1 hw1 => zgi b y.1 y.2 _ w1 (za2.of (hw1.item (opI b y.1 y.2 (zd0 [], false)) (.head _)) (zam _ _ _ _)))) fun _ => ?_
  rw [show ((zd0 [], false) : Opn).1.length = 0 from rfl]
  refine goA ?_
  exact zdq mb rfl rfl rfl rfl trivial (.cons _ (.cons _ (.refl _))) (by simp [za6])
end Go.Proofs.YtkkfifhaobjicaaGreatDoor
namespace Go.Proofs.YtkkfifhaobjicaaGreatDoor
open Go.RowKit Go.Eng
set_option maxRecDepth 100000
set_option maxHeartbeats 40000000
def qo4 {σ : Type} : List ((σ → Nat) × (σ → σ → Prop)) → σ → Nat × σ → Prop
 | [], s, x => x = (0, s)
 | t :: r, s, x => ∃ s', t.2 s s' ∧ (if t.1 s = 0 then qo4 r s' x else x = (t.1 s, s'))
def fvV (f : FuncId × List Value × List Value) : Value := .func (.func f.1) f.2.1.toArray f.2.2.toArray
abbrev fvI (qb qc : Nat) (fv : List (FuncId × List Value × List Value)) : Eng.Item := own 152 1 (some (qb, qc)) fv.length (fv.map fvV)
theorem qgv {σ : Type} (B : σ → List Eng.Item) (fv : List (FuncId × List Value × List Value)) (st : List ((σ → Nat) × (σ → σ → Prop))) (hl : st.length = fv.length) (I : Nat → σ → Prop) (s0 : σ) (h0 : I 0 s0)
  (hB : ∀ s, ∀ it ∈ B s, it.Stable none') (hfl : fv.length ≤ 1000)
  (hstep : ∀ k f t s, fv[k]? = some f → st[k]? = some t → I k s → zb9 Tryz.prog f.1 = true ∧ ∀ w, (∀ it ∈ B s, za2 it w) → (B s).Pairwise Eng.Item.Apart → Ct Tryz.prog f.1 (f.2.1 ++ f.2.2).toArray w (zap (B s)) (fun _ : σ => .int .i64 (t.1 s : Nat)) (t.2 s) (fun s' => B s'))
  (hI : ∀ k t s s', st[k]? = some t → I k s → t.2 s s' → t.1 s = 0 → I (k + 1) s')
  (qb qc : Nat) (w : World) (hw : ∀ it ∈ B s0 ++ [fvI qb qc fv], za2 it w) (ha : (B s0 ++ [fvI qb qc fv]).Pairwise Eng.Item.Apart) :
  Ct Tryz.prog 94 #[.slice (some ⟨qb, 0, none⟩) fv.length qc] w (zap (B s0 ++ [fvI qb qc fv])) (fun x : Nat × σ => .int .i64 (x.1 : Nat)) (qo4 st s0) (fun x => B x.2) := by
 refine zbd [_] _ Tryz.func94 rfl rfl hw ha ?_
 simp only [zaa]
 refine goA ?_
 refine zct (α := Nat × σ) (fun y => [(6, .slice (some ⟨qb, 0, none⟩) fv.length qc), (7, .int .i64 fv.length), (8, .int .i64 y.1)]) (fun y => y.1 ≤ fv.length ∧ I y.1 y.2 ∧ ∀ x, qo4 (st.drop y.1) y.2 x → qo4 st s0 x) (fun y => B y.2 ++ [fvI qb qc fv]) (fun y => fv.length - y.1) (0, s0) ⟨rfl, rfl, rfl, trivial⟩ ⟨Nat.zero_le _, h0, fun _ h => h⟩ (fun w h => h) fun ⟨k, s⟩ ⟨hk, hIk, hR⟩ => ?_
 simp only at hk hIk hR ⊢
 by_cases hkn : k < fv.length
 ·have hf : fv[k]? = some fv[k] := List.getElem?_eq_getElem hkn
  have ht : st[k]? = some (st[k]'(by omega)) := List.getElem?_eq_getElem (by omega)
  have hcell : ∀ {m : List Eng.Item} {w2 : World} {F2 : Nat → Prop} (w' : World), Hp w2 F2 m w' → fvI qb qc fv ∈ m → w'.cell? ⟨qb, k, none⟩ = some (fvV fv[k]) := fun w' hw' hm => zbo (hw'.item _ hm).1 k _ (by simp [hkn])
  have hdr : st.drop k = st[k]'(by omega) :: st.drop (k + 1) := (List.getElem_cons_drop ..).symm
  rw [hdr] at hR
  generalize st[k]'(by omega) = t at ht hR
  generalize fv[k] = f at hf hcell
  obtain ⟨hb, hc⟩ := hstep k f t s hf ht hIk
  have hI2 := hI k t s
  obtain ⟨f, fs, cs⟩ := f
  simp only at hb hc
  have hV : fvV (f, fs, cs) = .func (.func f) fs.toArray cs.toArray := rfl
  rw [hV] at hcell
  refine goA ?_
  refine l_w rfl (zaz rfl rfl (fun w' hw' => by rw [Nat.zero_add]; exact hcell w' hw' (by simp))) ?_
  refine goA ?_
  refine zae rfl (qhk (pre := B s) (fs := fs) (cs := cs) (vs := []) rfl hb rfl rfl rfl (hB s) (fun w1 hw1 hh1 ha1 => hc w1 hh1 ha1)) fun ⟨s', hs'⟩ => ?_
  dsimp only
  refine goA ?_
  by_cases he : t.1 s = 0
  ·have hne : ((t.1 s : Int) != 0) = false := by simp [he]
   rw [hne]
   refine goA ?_
   exact zay (k + 1, s') ⟨rfl, rfl, rfl, trivial⟩ ⟨hkn, hI2 s' ht hIk hs' he, fun x hx => hR x ⟨s', hs', by rw [if_pos he]; exact hx⟩⟩ (fun w hw => hw) (by show fv.length - (k + 1) < fv.length - k; omega)
  ·have hne : ((t.1 s : Int) != 0) = true := by simp [he]
   rw [hne]
   refine goA ?_
   exact zbw (t.1 s, s') rfl rfl rfl (hR _ ⟨s', hs', by rw [if_neg he]⟩) (List.sublist_append_left _ _) (hB s')
 ·obtain rfl : k = fv.length := by omega
  have hd0 : st.drop fv.length = [] := List.drop_of_length_le (by omega)
  rw [hd0] at hR
  refine goA ?_
  exact zbw (0, s) rfl rfl rfl (hR _ rfl) (List.sublist_append_left _ _) (hB s)
end Go.Proofs.YtkkfifhaobjicaaGreatDoor
namespace Go.Eng
open Go.RowKit
theorem Ct.conv {P : Program} {f : FuncId} {args : Array Value} {w : World} {pre pre2 rest : List Item} {α α2 : Type} {val : α → Value} {φ : α → Prop} {its : α → List Item} {val2 : α2 → Value} {φ2 : α2 → Prop} {its2 : α2 → List Item} (g : α2 → α)
  (h0 : Hp w (zap pre) (pre2 ++ rest) w) (hs2 : ∀ it ∈ pre2, it.Stable none') (h : (∀ it ∈ pre2, za2 it w) → pre2.Pairwise Item.Apart → Ct P f args w (zap pre2) val2 φ2 its2)
  (hv : ∀ x, φ2 x → val2 x = val (g x)) (hφ : ∀ x, φ2 x → φ (g x)) (hst : ∀ x, ∀ it ∈ its x, it.Stable none') (hout : ∀ x w', φ2 x → Hp w (zap pre) (its2 x ++ rest) w' → Hp w (zap pre) (its (g x)) w') : Ct P f args w (zap pre) val φ its := by
 have h1 := h (fun it hm => za2.of (h0.item it (List.mem_append_left _ hm)) (hs2 it hm)) (List.pairwise_append.1 h0.apart).1
 unfold Ct at h1 ⊢
 refine h1.mono ?_
 rintro e w' ⟨x, he, hx, hi⟩
 exact ⟨g x, by rw [he, hv x hx], hφ x hx, (hout x w' hx (h0.call hi fun _ _ ⟨it, hm, hk⟩ => ⟨it, hm, hk⟩)).its (.refl _) (hst _)⟩
end Go.Eng
namespace Go.Proofs.YtkkfifhaobjicaaGreatDoor
open Go.RowKit Go.Eng
set_option maxRecDepth 100000
def qn1 (K : PR) (R : List Nat) : PR := (zli R).map fun i => (i, (K.lookup i).getD [])
end Go.Proofs.YtkkfifhaobjicaaGreatDoor
namespace Go.Eng
open Go.RowKit
theorem qny {P : Program} {l : zat} {H : World → Prop} {ty : TypeId} {f : FuncId} {xs : List Operand} {vs : List Value} (hx : evs l xs = some vs) : OV P (.makeFunc (.func f) xs.toArray #[]) ty l H (.func (.func f) vs.toArray #[]) := ov fun _ _ _ w _ => by
 simp only [execOp, List.map_toArray, zhz hx]
 rfl
end Go.Eng
namespace Go.Proofs.YtkkfifhaobjicaaGreatDoor
open Go.RowKit Go.Eng
set_option maxRecDepth 100000
def wsD (s : Pg) : List (Nat × Bys) := (qn1 s.K s.R).map fun p => (2 + s.g.h.secs + p.1, p.2)
def zqd (s : Pg) (D : Dsk) : Nat × Dsk × Lg :=
 if (zcs D (wsD s)).1 = 0 then ((zbx (zcs D (wsD s)).2 (za3 s.g.at_) (zbv s.g)).1, (zbx (zcs D (wsD s)).2 (za3 s.g.at_) (zbv s.g)).2, { zkg s.g (zcs D (wsD s)).2 with dead := decide ((zbx (zcs D (wsD s)).2 (za3 s.g.at_) (zbv s.g)).1 = 4) })
 else ((zcs D (wsD s)).1, (zcs D (wsD s)).2, s.g)
def qhc (s : Pg) (D : Dsk) : Pg := { s with g := (zqd s D).2.2, R := if (zqd s D).1 = 0 then [] else s.R }
theorem zr4 (s : Pg) (d : Dk) : ∀ it ∈ [pgI s d, dkI d, ctI], it.Stable none' := by
 intro it hm
 rcases hm with _ | ⟨_, _ | ⟨_, _ | ⟨_, hm⟩⟩⟩
 ·exact zco s d
 ·exact zad _
 ·exact zcz _
 ·exact nomatch hm
theorem zlx {D : Dsk} (h : (zb8 D).1 = 0) : (zb8 D).2.keep = D.keep ∧ (zb8 D).2.wait = [] := by
 unfold zb8 at h ⊢
 split at h
 ·cases h
 ·rename_i hd
  rw [if_neg hd]
  by_cases ha : (zgs D).1 = 0
  ·rw [if_pos ha]
   exact ⟨(zji ha).2.2.2, rfl⟩
  ·rw [if_neg ha] at h
   exact absurd h ha
theorem zjq.trans {d d' d2 : Dk} {D D' : Dsk} (h : zjq d D d') (h2 : zjq d' D' d2) : zjq d D' d2 := ⟨h2.1.trans h.1, h2.2.1.trans h.2.1, h2.2.2⟩
end Go.Proofs.YtkkfifhaobjicaaGreatDoor
namespace Go.Eng
open Go.RowKit
set_option maxRecDepth 100000
section
variable {P : Program} {Q : Exit → Act → World → Prop} {N : Fm} {l : zat} {w0 : World} {F : Nat → Prop} {m : List Item} {ty : TypeId} {pos : String} {after : Array Edge} {g : Option (Nat × Bool)} {d : Nat} {q : IntKind} {x y z : Operand} {T k e : TypeId} {b : Nat} {A : zck} {h s : Nat} {zv v : Value}
end
end Go.Eng
