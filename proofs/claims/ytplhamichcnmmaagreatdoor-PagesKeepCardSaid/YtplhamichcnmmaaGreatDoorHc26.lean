/- slices.Sort and slices.Sorted of whole numbers. -/
/- package pages: a store in memory; its small functions. -/
import Derived.Shelf.SortM.Plain
import Derived.Shelf.SortM.SortNone
import Derived.Sort.OwnSortedInts
import Derived.Test.YtplhamichcnmmaaGreatDoorHc25
import Derived.Test.YtplhamichcnmmaaGreatDoorHc22
namespace Go.Proofs.YtplhamichcnmmaaGreatDoor
open Go.Shelf
def sortA_ren : Go.Shelf.Ren := ⟨fun | 5 => 127 | 8 => 140 | 7 => 139 | 19 => 158 | 20 => 159 | 10 => 149 | 11 => 150 | 12 => 151 | 13 => 152 | 14 => 153 | 15 => 154 | 16 => 155 | 17 => 156 | 18 => 157 | 30 => 165 | 31 => 166 | 32 => 167 | 33 => 168 | 34 => 169 | 35 => 170 | 40 => 172 | n => n, fun | 23 => 144 | 25 => 3 | 3 => 3 | 32 => 140 | 22 => 144 | 0 => 0 | 44 => 186 | 46 => 83 | 4 => 4 | 36 => 205 | 35 => 204 | 41 => 116 | 5 => 5 | 9 => 9 | 53 => 216 | 57 => 220 | 63 => 222 | 64 => 223 | n => n, fun | n => n⟩
theorem sortA : Go.Proofs.SlLaysM.n5 Tryz.prog sortA_ren := {
  mixed := by kernel_rfl
  f5 := ⟨Tryz.f127.name, by decide, Tryz.func127.trans (congrArg some (by kernel_rfl))⟩
  f7 := ⟨Tryz.f139.name, by decide, Tryz.func139.trans (congrArg some (by kernel_rfl))⟩
  f8 := Tryz.func140.trans (congrArg some (by kernel_rfl))
  f10 := ⟨Tryz.f149.name, by decide, Tryz.func149.trans (congrArg some (by kernel_rfl))⟩
  f11 := ⟨Tryz.f150.name, by decide, Tryz.func150.trans (congrArg some (by kernel_rfl))⟩
  f12 := ⟨Tryz.f151.name, by decide, Tryz.func151.trans (congrArg some (by kernel_rfl))⟩
  f13 := ⟨Tryz.f152.name, by decide, Tryz.func152.trans (congrArg some (by kernel_rfl))⟩
  f14 := ⟨Tryz.f153.name, by decide, Tryz.func153.trans (congrArg some (by kernel_rfl))⟩
  f15 := ⟨Tryz.f154.name, by decide, Tryz.func154.trans (congrArg some (by kernel_rfl))⟩
  f16 := ⟨Tryz.f155.name, by decide, Tryz.func155.trans (congrArg some (by kernel_rfl))⟩
  f17 := ⟨Tryz.f156.name, by decide, Tryz.func156.trans (congrArg some (by kernel_rfl))⟩
  f18 := ⟨Tryz.f157.name, by decide, Tryz.func157.trans (congrArg some (by kernel_rfl))⟩
  f19 := Tryz.func158.trans (congrArg some (by kernel_rfl))
  f20 := Tryz.func159.trans (congrArg some (by kernel_rfl))
  f30 := ⟨Tryz.f165.name, by decide, Tryz.func165.trans (congrArg some (by kernel_rfl))⟩
  f31 := Tryz.func166.trans (congrArg some (by kernel_rfl))
  f32 := Tryz.func167.trans (congrArg some (by kernel_rfl))
  f33 := ⟨Tryz.f168.name, by decide, Tryz.func168.trans (congrArg some (by kernel_rfl))⟩
  f34 := ⟨Tryz.f169.name, by decide, Tryz.func169.trans (congrArg some (by kernel_rfl))⟩
  f35 := ⟨Tryz.f170.name, by decide, Tryz.func170.trans (congrArg some (by kernel_rfl))⟩
  f40 := ⟨Tryz.f172.name, by decide, Tryz.func172.trans (congrArg some (by kernel_rfl))⟩
  t0 := Tryz.underlying0
  a0 := Tryz.isAgg0
  z0 := Tryz.sizeOf0
  v0 := Tryz.zeroValue0
  t3 := Tryz.underlying3
  a3 := Tryz.isAgg3
  z3 := Tryz.sizeOf3
  v3 := Tryz.zeroValue3
  t4 := Tryz.underlying4
  a4 := Tryz.isAgg4
  z4 := Tryz.sizeOf4
  v4 := Tryz.zeroValue4
  t5 := Tryz.underlying5
  a5 := Tryz.isAgg5
  z5 := Tryz.sizeOf5
  v5 := Tryz.zeroValue5
  t9 := Tryz.underlying9
  a9 := Tryz.isAgg9
  z9 := Tryz.sizeOf9
  v9 := Tryz.zeroValue9
  t22 := Tryz.underlying144
  a22 := Tryz.isAgg144
  z22 := Tryz.sizeOf144
  v22 := Tryz.zeroValue144
  t23 := Tryz.underlying144
  a23 := Tryz.isAgg144
  z23 := Tryz.sizeOf144
  v23 := Tryz.zeroValue144
  t25 := Tryz.underlying3
  a25 := Tryz.isAgg3
  z25 := Tryz.sizeOf3
  v25 := Tryz.zeroValue3
  t32 := Tryz.underlying140
  a32 := Tryz.isAgg140
  z32 := Tryz.sizeOf140
  v32 := Tryz.zeroValue140
  t35 := Tryz.underlying204
  a35 := Tryz.isAgg204
  z35 := Tryz.sizeOf204
  v35 := Tryz.zeroValue204
  t36 := Tryz.underlying205
  a36 := Tryz.isAgg205
  z36 := Tryz.sizeOf205
  v36 := Tryz.zeroValue205
  t41 := Tryz.underlying116
  a41 := Tryz.isAgg116
  z41 := Tryz.sizeOf116
  v41 := Tryz.zeroValue116
  t44 := Tryz.underlying186
  a44 := Tryz.isAgg186
  z44 := Tryz.sizeOf186
  v44 := Tryz.zeroValue186
  t46 := Tryz.underlying83
  a46 := Tryz.isAgg83
  z46 := Tryz.sizeOf83
  v46 := Tryz.zeroValue83
  t53 := Tryz.underlying216
  a53 := Tryz.isAgg216
  z53 := Tryz.sizeOf216
  v53 := Tryz.zeroValue216
  t57 := Tryz.underlying220
  a57 := Tryz.isAgg220
  z57 := Tryz.sizeOf220
  v57 := Tryz.zeroValue220
  t63 := Tryz.underlying222
  a63 := Tryz.isAgg222
  z63 := Tryz.sizeOf222
  v63 := Tryz.zeroValue222
  t64 := Tryz.underlying223
  a64 := Tryz.isAgg223
  z64 := Tryz.sizeOf223
  v64 := Tryz.zeroValue223 }
open Go.RowKit Go.Eng
set_option maxRecDepth 100000
set_option maxHeartbeats 40000000
def srtN (L : List Nat) : List Nat := L.mergeSort fun x y => decide (x ≤ y)
theorem map_sort (L : List Nat) : (L.map fun n : Nat => (n : Int)).mergeSort (fun x y => decide (x ≤ y)) = (srtN L).map fun n : Nat => (n : Int) := by
  unfold srtN
  refine (List.map_mergeSort (f := fun n : Nat => (n : Int)) fun a _ b _ => ?_).symm
  simp
theorem isort_calls (o : Option (Nat × Nat)) (L : List Nat) (hL : L.length ≤ 1000000000) (w : World) (hw : ∀ it ∈ [own 3 1 o L.length (intsV L)], Here it w) :
    Ct Tryz.prog 127 #[slV o L.length] w (foots [own 3 1 o L.length (intsV L)]) (fun _ : Unit => .tuple #[]) (fun _ => True) (fun _ => [own 3 1 o L.length (intsV (srtN L))]) := by
  have hin := hw _ (.head _)
  obtain ⟨⟨hl, hp⟩, -, hfo⟩ := hin
  have hlen : (srtN L).length = L.length := List.length_mergeSort L
  have hiv : intsV L = (L.map fun n : Nat => (n : Int)).map (Value.int .i64) := by simp [intsV, Function.comp_def]
  have hivs : intsV (srtN L) = ((srtN L).map fun n : Nat => (n : Int)).map (Value.int .i64) := by simp [intsV, Function.comp_def]
  have hst : ∀ o : Option (Nat × Nat), ∀ it ∈ [own 3 1 o L.length (intsV (srtN L))], it.Stable none' := by simp [own_stable]
  rcases o with _ | ⟨b, c⟩
  · have h0 : L.length = 0 := hp
    obtain rfl : L = [] := List.eq_nil_of_length_eq_zero h0
    have h1 := AnyM.slices_Sort_int_none sortA none 0 w
    unfold Ct
    refine Calls.mono h1 ?_
    rintro e w' ⟨rfl, rfl⟩
    refine ⟨(), rfl, trivial, .refl _ _, fun it hm => ?_, .cons (fun _ h => nomatch h) .nil⟩
    obtain rfl : it = own 3 1 none 0 (intsV (srtN [])) := by simpa using hm
    exact ⟨⟨by rw [hivs]; simp [srtN], rfl⟩, own_stable _ _ _ _ _ _, fun k hk => ⟨hfo k hk, fun _ => ⟨_, .head _, hk⟩⟩⟩
  · obtain ⟨h1, h2, cur, hb, hc, ht⟩ := hp
    rw [Nat.mul_one] at ht hc
    have hbl : b < w.heap.size := (Array.getElem?_eq_some_iff.1 hb).1
    have hH : Go.Sort.Holds (Value.int .i64) w b 0 (L.map fun n : Nat => (n : Int)).toArray := holds_of_blockI hb (by rw [List.length_map, ht, hiv])
    have h3 := AnyM.slices_Sort_int sortA b 0 c (L.map fun n : Nat => (n : Int)) w hH hbl (by rw [List.length_map]; omega)
    rw [List.length_map, map_sort] at h3
    unfold Ct
    refine Calls.mono h3 ?_
    rintro e w' ⟨rfl, n, os, rfl⟩
    obtain ⟨g1, g2, g3, g4, g5⟩ := grownBy_sortedI (w := w) (g := b) (n := n) (os := os) ((srtN L).map fun n : Nat => (n : Int)).toArray
    have hb' := heap_sortedI (n := n) (os := os) ((srtN L).map fun n : Nat => (n : Int)).toArray hb
    refine ⟨(), rfl, trivial, ⟨g1, g2, g3, g4, fun k hk hF => g5 k hk (fun e => hF ⟨_, .head _, ⟨c, by cases e; rfl⟩⟩)⟩, fun it hm => ?_, .cons (fun _ h => nomatch h) .nil⟩
    obtain rfl : it = own 3 1 (some (b, c)) L.length (intsV (srtN L)) := by simpa using hm
    refine ⟨⟨by rw [← hlen]; simp [intsV], h1, h2, _, hb', by simp [Go.Sort.putCells, hc], ?_⟩, own_stable _ _ _ _ _ _, fun k hk => ⟨Nat.lt_of_lt_of_le (hfo k hk) g4, fun _ => ⟨_, .head _, hk⟩⟩⟩
    have := take_putCellsI cur ((srtN L).map fun n : Nat => (n : Int)) (by rw [List.length_map, hlen]; omega)
    rw [List.length_map, hlen] at this
    rw [Nat.mul_one, this, hivs]
theorem nodup_le {α : Type} [DecidableEq α] : ∀ {l L : List α}, l.Nodup → (∀ x ∈ l, x ∈ L) → l.length ≤ L.length
  | [], _, _, _ => Nat.zero_le _
  | x :: l, L, hn, h => by
    have hx := h x (.head _)
    have hn' := List.nodup_cons.1 hn
    have := nodup_le (l := l) (L := L.erase x) hn'.2 fun y hy => (List.mem_erase_of_ne (fun e : y = x => hn'.1 (by rw [← e]; exact hy))).2 (h y (.tail _ hy))
    rw [List.length_erase_of_mem hx] at this
    have := List.length_pos_of_mem hx
    rw [List.length_cons]
    omega
theorem srtN_perm {L L' : List Nat} (h : L.Perm L') : srtN L = srtN L' := by
  unfold srtN
  have tr : ∀ a b c : Nat, decide (a ≤ b) = true → decide (b ≤ c) = true → decide (a ≤ c) = true := fun a b c h1 h2 => by simp only [decide_eq_true_eq] at *; omega
  have to : ∀ a b : Nat, (decide (a ≤ b) || decide (b ≤ a)) = true := fun a b => by simp only [Bool.or_eq_true, decide_eq_true_eq]; omega
  refine List.Perm.eq_of_pairwise (le := fun a b => decide (a ≤ b) = true) (fun a b _ _ h1 h2 => ?_) (List.pairwise_mergeSort tr to L) (List.pairwise_mergeSort tr to L') (((List.mergeSort_perm L _).trans h).trans (List.mergeSort_perm L' _).symm)
  simp only [decide_eq_true_eq] at h1 h2
  omega
theorem sortedkeys_calls (x b : Nat) (A : NRows) (hA : A.length ≤ 1000000000) (w : World) (hw : ∀ it ∈ kyI x b A, Here it w) (ha : (kyI x b A).Pairwise Eng.Item.Apart) :
    Ct Tryz.prog 98 #[kyV x] w (foots (kyI x b A)) (fun o : Option (Nat × Nat) => slV o A.length) (fun _ => True) (fun o => [own 3 1 o A.length (intsV (srtN (keysN A))), mapN .i64 b A]) := by
  refine cu_of [_] _ Tryz.func98 rfl rfl hw ha ?_
  simp only [argSlots]
  unfold kyV
  refine goA ?_
  have hmo : ∀ it ∈ [mapN .i64 b A], it.Stable none' := by simp [mapN_stable]
  have hkl : (keysN A).length = A.length := by simp [keysN]
  refine l_perm (m' := kyI x b A ++ []) (by rw [List.append_nil]) ?_
  refine l_opg rfl (o_cu (pre := kyI x b A) (m := []) rfl (by kernel_rfl) rfl (kyI_stable x b A) (fun w1 hw1 hh1 ha1 => icollect_calls (f := 128) (cs := [.pointer (some ⟨x, 0, none⟩)]) (by kernel_rfl) (keys_iter x b A) (kyI_stable x b A) hmo (fun k y h => by
    have h1 : (k ++ [y]).length ≤ (keysN A).length := nodup_le h.1 h.2
    rw [List.length_append, hkl] at h1
    simp at h1
    omega) w1 hh1 ha1)) fun ⟨⟨o, out⟩, hS⟩ => ?_
  dsimp only at hS ⊢
  have hol : out.length = A.length := by rw [hS.length_eq, hkl]
  have hso : srtN out = srtN (keysN A) := srtN_perm hS
  refine goA ?_
  refine l_opg rfl (o_cu (pre := [own 3 1 o out.length (intsV out)]) rfl (by kernel_rfl) rfl (by simp [own_stable]) (fun w1 hw1 hh1 ha1 => isort_calls o out (by omega) w1 hh1)) fun ⟨_, _⟩ => ?_
  rw [hso, hol]
  refine goA ?_
  exact x_ct o rfl rfl rfl trivial (.cons_cons _ (.cons_cons _ (.refl _))) (by simp [own_stable, mapN_stable])
end Go.Proofs.YtplhamichcnmmaaGreatDoor

namespace Go.Eng
open Go.RowKit
variable {P : Program} {l : Slots} {H : World → Prop} {ty : TypeId} {q : IntKind} {x y : Operand} {T k e : TypeId} {b : Nat} {A : NRows} {h : Nat} {zv : Value}
/-! Maps that lie there, items or not. -/
theorem v_lenmapP (hx : evO l x = some (.map (some b))) (hT : P.underlying T = some (.map k e)) (hm : ∀ w, H w → (mapN q b A).prop w) : OV P (.call ⟨.builtin .len, #[x], #[T]⟩) ty l H (.int .i64 (A.length : Nat)) := ov fun _ _ _ w hw => by
  obtain ⟨es, clk, h1, h2⟩ := hm w hw
  have hlen : es.size = A.length := by have := congrArg List.length h2.rows; simpa using this
  have hg : (getObj b).run P w = .ok (.map es clk) w := by simp [getObj, Sem.run, h1]
  simp [execOp, resolve, invoke, builtin, ev_of hx, Builtin.len_, run_underlying hT w, goInt, hg, hlen]
theorem v_lookP (hk : P.underlying k = some (.int q)) (hx : evO l x = some (.map (some b))) (hy : evO l y = some (.int q (h : Int))) (hT : P.underlying T = some (.map k e)) (hz : (P.info? e).bind (·.zero) = some zv) (hh : okN q h) (hm : ∀ w, H w → (mapN q b A).prop w) :
    OV P (.lookup T x y true) ty l H (.tuple #[(A.lookup h).getD zv, .bool (A.lookup h).isSome]) := ov fun _ _ _ w hw => by
  have := lookN_run hk hT hz hh true (hm w hw)
  simp only [execOp, ev_of hx, ev_of hy, Sem.run_bind, this]; rfl
end Go.Eng
namespace Go.Proofs.YtplhamichcnmmaaGreatDoor
open Go.RowKit Go.Eng Go.Eng.Bm
set_option maxRecDepth 100000
set_option maxHeartbeats 40000000
abbrev PR := List (Nat × Bys)
def pgV (s : Bys) : Value := .agg (bytesV s).toArray
def toP (A : PR) : NRows := A.map fun p => (p.1, pgV p.2)
def toB (R : List Nat) : NRows := R.map fun n => (n, .bool true)
structure Pg where
  b : Nat
  bl : Nat
  kb : Nat
  db : Nat
  cb : Nat
  g : Lg
  n : Nat
  note : Bys
  K : PR
  R : List Nat
  C : PR
  dead : Bool
abbrev pgA (s : Pg) (d : Dk) : Array Value := #[.pointer (some ⟨s.bl, 0, none⟩), .pointer (some ⟨d.b, 0, none⟩), .int .i64 (s.n : Int), .string ⟨s.note.toArray⟩, .map (some s.kb), .map (some s.db), .map (some s.cb), .bool s.dead]
abbrev pgC (s : Pg) (d : Dk) : Eng.Item := pt s.b (.cells (pgA s d) 80 (0, 0))
def pgL (s : Pg) (d : Dk) : List Eng.Item := [pgC s d, lgI s.bl d s.g, mapN .i64 s.kb (toP s.K), mapN .i64 s.db (toB s.R), mapN .i64 s.cb (toP s.C)]
def pgI (s : Pg) (d : Dk) : Eng.Item := bundle (pgL s d)
theorem pgL_stable (s : Pg) (d : Dk) : ∀ it ∈ pgL s d, it.Stable none' := by simp [pgL, pt_stable, mapN_stable]
theorem pgI_stable (s : Pg) (d : Dk) : (pgI s d).Stable none' := bundle_stable _
theorem pg_open {s : Pg} {d : Dk} {w w0 : World} {F : Nat → Prop} {m : List Eng.Item} (h : Hp w0 F (pgI s d :: m) w) : Hp w0 F (pgL s d ++ m) w := Hp.open1 h
theorem pg_close {s : Pg} {d : Dk} {w w0 : World} {F : Nat → Prop} {m : List Eng.Item} (h : Hp w0 F (pgL s d ++ m) w) : Hp w0 F (pgI s d :: m) w := Hp.close1 (pgL_stable s d) h
theorem pg_here {s : Pg} {d : Dk} {w : World} (h : Here (pgI s d) w) {it : Eng.Item} (hm : it ∈ pgL s d) : Here it w := h.1.1 it hm
theorem pg_at {s : Pg} {d : Dk} {w : World} (h : Here (pgI s d) w) (i : Nat) {v : Value} (hv : (pgA s d)[i]? = some v) : w.cell? ⟨s.b, i, none⟩ = some v :=
  cell_pt (pg_here h (it := pgC s d) (.head _)).1 hv
theorem pg_log {s : Pg} {d : Dk} {w : World} (h : Here (pgI s d) w) : Here (lgI s.bl d s.g) w := pg_here h (.tail _ (.head _))
theorem sector_calls (a b : Nat) (ha : a ≤ 1000000) (hb : b ≤ 1000000) (w : World) : Pu Tryz.prog 56 #[.int .i64 a, .int .i64 b] w (.int .i64 (2 + a + b : Nat)) := by
  refine pu_of [_, _] Tryz.func56 rfl rfl ?_
  simp only [argSlots, Nat.reduceAdd]
  refine goA ?_
  exact x_pu rfl rfl rfl
theorem pgnote_calls (s : Pg) (d : Dk) (w : World) (h : Here (pgI s d) w) : Pu Tryz.prog 15 #[.pointer (some ⟨s.b, 0, none⟩)] w (.string ⟨s.note.toArray⟩) := by
  refine pu_of [_] Tryz.func15 rfl rfl ?_
  simp only [argSlots]
  refine goA ?_
  refine l_w rfl (v_load rfl rfl (fun w' hw' => pg_at (h.keep hw') 3 rfl)) ?_
  refine goA ?_
  exact x_pu rfl rfl rfl
theorem pgpages_calls (s : Pg) (d : Dk) (w : World) (h : Here (pgI s d) w) : Pu Tryz.prog 16 #[.pointer (some ⟨s.b, 0, none⟩)] w (.int .i64 (s.n : Int)) := by
  refine pu_of [_] Tryz.func16 rfl rfl ?_
  simp only [argSlots]
  refine goA ?_
  refine l_w rfl (v_load rfl rfl (fun w' hw' => pg_at (h.keep hw') 2 rfl)) ?_
  refine goA ?_
  exact x_pu rfl rfl rfl
theorem pgdisk_calls (s : Pg) (d : Dk) (w : World) (h : Here (pgI s d) w) : Pu Tryz.prog 26 #[.pointer (some ⟨s.b, 0, none⟩)] w (.pointer (some ⟨d.b, 0, none⟩)) := by
  refine pu_of [_] Tryz.func26 rfl rfl ?_
  simp only [argSlots]
  refine goA ?_
  refine l_w rfl (v_load rfl rfl (fun w' hw' => pg_at (h.keep hw') 1 rfl)) ?_
  refine goA ?_
  exact x_pu rfl rfl rfl
theorem pgbehind_calls (s : Pg) (d : Dk) (hn : s.n ≤ 1024) (hs : s.g.h.secs < 65536) (w : World) (h : Here (pgI s d) w) : Pu Tryz.prog 17 #[.pointer (some ⟨s.b, 0, none⟩)] w (.int .i64 (2 + s.g.h.secs + s.n : Nat)) := by
  refine pu_of [_] Tryz.func17 rfl rfl ?_
  simp only [argSlots]
  refine goA ?_
  refine t_drawm [] 11 rfl rfl (by kernel_rfl) ?_
  (repeat first | (apply d_w [3, 8] rfl rfl rfl (by kernel_rfl) (fun _ h => by first | exact h | exact Hp.sub h (.cons _ (.refl _)) | exact Hp.sub h (.cons _ (.cons _ (.refl _))) | exact Hp.sub h (.cons _ (.cons _ (.cons _ (.refl _)))) | exact Hp.sub h (.cons _ (.cons _ (.cons _ (.cons _ (.refl _))))) | exact Hp.sub h (.cons _ (.cons _ (.cons _ (.cons _ (.cons _ (.refl _)))))) | exact Hp.sub h (.cons _ (.cons _ (.cons _ (.cons _ (.cons _ (.cons _ (.refl _))))))) | exact Hp.sub h (.cons_cons _ (.cons_cons _ (List.nil_sublist _))) | exact Hp.sub h (.cons _ (.cons_cons _ (.cons_cons _ (List.nil_sublist _))))); focus (first | exact v_move rfl | exact v_assign rfl | exact v_bt rfl rfl | exact v_extract rfl rfl | exact v_field0 rfl rfl | exact v_field rfl rfl | exact v_lens rfl rfl | exact v_lenstr rfl rfl | exact v_nt rfl | exact v_load1p rfl rfl (by repeat first | exact .head _ | apply List.Mem.tail) | exact v_loadn rfl rfl (by repeat first | exact .head _ | apply List.Mem.tail) rfl | exact v_loadp rfl rfl (by repeat first | exact .head _ | apply List.Mem.tail) rfl | exact v_loada rfl rfl (by repeat first | exact .head _ | apply List.Mem.tail) | exact v_eqb rfl rfl rfl | exact v_slA rfl rfl rfl | exact v_builds rfl rfl rfl rfl rfl | exact v_eqs rfl rfl | exact v_nc rfl | exact v_caps rfl rfl | exact v_eqpn rfl rfl rfl | exact v_nepn rfl rfl rfl | exact v_neps rfl rfl rfl rfl | ((first | refine v_bn rfl rfl ?_ | refine v_is1 rfl rfl rfl ?_ | refine v_ia1 rfl rfl rfl ?_ | refine v_sa rfl rfl rfl ?_ | refine v_sF rfl rfl rfl ?_ | refine v_sT rfl rfl rfl ?_ | refine v_sFT rfl rfl rfl rfl ?_ | refine v_lF rfl rfl rfl rfl ?_ | refine v_is rfl rfl rfl ?_ | refine v_ia rfl rfl rfl ?_ | refine v_lT rfl rfl rfl rfl ?_ | refine v_cv rfl rfl rfl ?_ | refine v_slLH rfl rfl rfl rfl rfl ?_ | refine v_sl3 rfl rfl rfl rfl rfl ?_); first | omega | assumption) | exact v_pT rfl rfl (by first | omega | assumption | (simp; done) | exact fun h => h (by assumption) | fail) | exact v_pF rfl rfl (by first | omega | assumption | (simp; done) | exact fun h => h (by assumption) | fail) | exact v_pickB rfl rfl rfl)) | refine d_no [3, 8] rfl rfl rfl (by kernel_rfl) (fun _ h => by first | exact h | exact Hp.sub h (.cons _ (.refl _)) | exact Hp.sub h (.cons _ (.cons _ (.refl _))) | exact Hp.sub h (.cons _ (.cons _ (.cons _ (.refl _)))) | exact Hp.sub h (.cons _ (.cons _ (.cons _ (.cons _ (.refl _))))) | exact Hp.sub h (.cons _ (.cons _ (.cons _ (.cons _ (.cons _ (.refl _)))))) | exact Hp.sub h (.cons _ (.cons _ (.cons _ (.cons _ (.cons _ (.cons _ (.refl _))))))) | exact Hp.sub h (.cons_cons _ (.cons_cons _ (List.nil_sublist _))) | exact Hp.sub h (.cons _ (.cons_cons _ (.cons_cons _ (List.nil_sublist _))))) ?_ | refine d_T [3, 8] rfl rfl rfl rfl (by first | omega | assumption | (simp; done) | exact fun h => h (by assumption) | fail) ?_ | refine d_F [3, 8] rfl rfl rfl rfl (by first | omega | assumption | (simp; done) | exact fun h => h (by assumption) | fail) ?_)
  refine d_v [8] rfl rfl (by kernel_rfl) (fun _ h => by first | exact h | exact Hp.sub h (.cons _ (.refl _)) | exact Hp.sub h (.cons _ (.cons _ (.refl _))) | exact Hp.sub h (.cons _ (.cons _ (.cons _ (.refl _)))) | exact Hp.sub h (.cons _ (.cons _ (.cons _ (.cons _ (.refl _))))) | exact Hp.sub h (.cons _ (.cons _ (.cons _ (.cons _ (.cons _ (.refl _)))))) | exact Hp.sub h (.cons _ (.cons _ (.cons _ (.cons _ (.cons _ (.cons _ (.refl _))))))) | exact Hp.sub h (.cons_cons _ (.cons_cons _ (List.nil_sublist _))) | exact Hp.sub h (.cons _ (.cons_cons _ (.cons_cons _ (List.nil_sublist _))))) rfl rfl (v_load rfl rfl (fun w' hw' => pg_at (h.keep hw') 0 rfl)) ?_
  (repeat first | (apply d_w [8] rfl rfl rfl (by kernel_rfl) (fun _ h => by first | exact h | exact Hp.sub h (.cons _ (.refl _)) | exact Hp.sub h (.cons _ (.cons _ (.refl _))) | exact Hp.sub h (.cons _ (.cons _ (.cons _ (.refl _)))) | exact Hp.sub h (.cons _ (.cons _ (.cons _ (.cons _ (.refl _))))) | exact Hp.sub h (.cons _ (.cons _ (.cons _ (.cons _ (.cons _ (.refl _)))))) | exact Hp.sub h (.cons _ (.cons _ (.cons _ (.cons _ (.cons _ (.cons _ (.refl _))))))) | exact Hp.sub h (.cons_cons _ (.cons_cons _ (List.nil_sublist _))) | exact Hp.sub h (.cons _ (.cons_cons _ (.cons_cons _ (List.nil_sublist _))))); focus (first | exact v_move rfl | exact v_assign rfl | exact v_bt rfl rfl | exact v_extract rfl rfl | exact v_field0 rfl rfl | exact v_field rfl rfl | exact v_lens rfl rfl | exact v_lenstr rfl rfl | exact v_nt rfl | exact v_load1p rfl rfl (by repeat first | exact .head _ | apply List.Mem.tail) | exact v_loadn rfl rfl (by repeat first | exact .head _ | apply List.Mem.tail) rfl | exact v_loadp rfl rfl (by repeat first | exact .head _ | apply List.Mem.tail) rfl | exact v_loada rfl rfl (by repeat first | exact .head _ | apply List.Mem.tail) | exact v_eqb rfl rfl rfl | exact v_slA rfl rfl rfl | exact v_builds rfl rfl rfl rfl rfl | exact v_eqs rfl rfl | exact v_nc rfl | exact v_caps rfl rfl | exact v_eqpn rfl rfl rfl | exact v_nepn rfl rfl rfl | exact v_neps rfl rfl rfl rfl | ((first | refine v_bn rfl rfl ?_ | refine v_is1 rfl rfl rfl ?_ | refine v_ia1 rfl rfl rfl ?_ | refine v_sa rfl rfl rfl ?_ | refine v_sF rfl rfl rfl ?_ | refine v_sT rfl rfl rfl ?_ | refine v_sFT rfl rfl rfl rfl ?_ | refine v_lF rfl rfl rfl rfl ?_ | refine v_is rfl rfl rfl ?_ | refine v_ia rfl rfl rfl ?_ | refine v_lT rfl rfl rfl rfl ?_ | refine v_cv rfl rfl rfl ?_ | refine v_slLH rfl rfl rfl rfl rfl ?_ | refine v_sl3 rfl rfl rfl rfl rfl ?_); first | omega | assumption) | exact v_pT rfl rfl (by first | omega | assumption | (simp; done) | exact fun h => h (by assumption) | fail) | exact v_pF rfl rfl (by first | omega | assumption | (simp; done) | exact fun h => h (by assumption) | fail) | exact v_pickB rfl rfl rfl)) | refine d_no [8] rfl rfl rfl (by kernel_rfl) (fun _ h => by first | exact h | exact Hp.sub h (.cons _ (.refl _)) | exact Hp.sub h (.cons _ (.cons _ (.refl _))) | exact Hp.sub h (.cons _ (.cons _ (.cons _ (.refl _)))) | exact Hp.sub h (.cons _ (.cons _ (.cons _ (.cons _ (.refl _))))) | exact Hp.sub h (.cons _ (.cons _ (.cons _ (.cons _ (.cons _ (.refl _)))))) | exact Hp.sub h (.cons _ (.cons _ (.cons _ (.cons _ (.cons _ (.cons _ (.refl _))))))) | exact Hp.sub h (.cons_cons _ (.cons_cons _ (List.nil_sublist _))) | exact Hp.sub h (.cons _ (.cons_cons _ (.cons_cons _ (List.nil_sublist _))))) ?_ | refine d_T [8] rfl rfl rfl rfl (by first | omega | assumption | (simp; done) | exact fun h => h (by assumption) | fail) ?_ | refine d_F [8] rfl rfl rfl rfl (by first | omega | assumption | (simp; done) | exact fun h => h (by assumption) | fail) ?_)
  refine d_v [4] rfl rfl (by kernel_rfl) (fun _ h => by first | exact h | exact Hp.sub h (.cons _ (.refl _)) | exact Hp.sub h (.cons _ (.cons _ (.refl _))) | exact Hp.sub h (.cons _ (.cons _ (.cons _ (.refl _)))) | exact Hp.sub h (.cons _ (.cons _ (.cons _ (.cons _ (.refl _))))) | exact Hp.sub h (.cons _ (.cons _ (.cons _ (.cons _ (.cons _ (.refl _)))))) | exact Hp.sub h (.cons _ (.cons _ (.cons _ (.cons _ (.cons _ (.cons _ (.refl _))))))) | exact Hp.sub h (.cons_cons _ (.cons_cons _ (List.nil_sublist _))) | exact Hp.sub h (.cons _ (.cons_cons _ (.cons_cons _ (List.nil_sublist _))))) rfl rfl (v_load rfl rfl (fun w' hw' => pg_at (h.keep hw') 2 rfl)) ?_
  refine goE ?_
  refine d_opg 4 ⟨by kernel_rfl, by decide⟩ rfl rfl (o_pure rfl (by kernel_rfl) rfl (fun w1 hw1 => lgsectors_calls s.bl d s.g w1 (pg_log (h.keep hw1)))) (fun _ _ h => goH h) fun _ => ?_
  refine goE ?_
  refine d_opg 9 ⟨by kernel_rfl, by decide⟩ rfl rfl (o_pure rfl (by kernel_rfl) rfl (fun w1 hw1 => sector_calls s.g.h.secs s.n (by omega) (by omega) w1)) (fun _ _ h => goH h) fun _ => ?_
  refine goE ?_
  refine d_end (by kernel_rfl) ?_
  refine goA ?_
  exact x_pu rfl rfl rfl
def mayK (s : Pg) (i : Int) : Nat := if i < 0 ∨ (s.n : Int) ≤ i then 2 else if s.dead then 4 else 0
theorem may_calls (s : Pg) (d : Dk) (i : Int) (w : World) (h : Here (pgI s d) w) : Pu Tryz.prog 67 #[.pointer (some ⟨s.b, 0, none⟩), .int .i64 i] w (.int .i64 (mayK s i : Nat)) := by
  refine pu_of [_, _] Tryz.func67 rfl rfl ?_
  simp only [argSlots, Nat.reduceAdd]
  refine goA ?_
  unfold mayK
  by_cases h0 : i < 0
  · refine goA ?_
    exact x_pu rfl rfl (by rw [if_pos (.inl h0)]; rfl)
  · refine goA ?_
    refine l_w rfl (v_load (v := .int .i64 (s.n : Int)) rfl rfl (fun w' hw' => pg_at (h.keep hw') 2 rfl)) ?_
    refine goA ?_
    by_cases h1 : (s.n : Int) ≤ i
    · refine goA ?_
      exact x_pu rfl rfl (by rw [if_pos (.inr h1)]; rfl)
    · refine goA ?_
      refine l_w rfl (v_load (v := .bool s.dead) rfl rfl (fun w' hw' => pg_at (h.keep hw') 7 rfl)) ?_
      rw [if_neg (by omega)]
      cases hd : s.dead with
      | true =>
        refine goA ?_
        exact x_pu rfl rfl rfl
      | false =>
        refine goA ?_
        exact x_pu rfl rfl rfl
theorem changed_calls (s : Pg) (d : Dk) (w : World) (h : Here (pgI s d) w) : Pu Tryz.prog 25 #[.pointer (some ⟨s.b, 0, none⟩)] w (.int .i64 (s.C.length : Nat)) := by
  refine pu_of [_] Tryz.func25 rfl rfl ?_
  simp only [argSlots]
  refine goA ?_
  refine l_w rfl (v_load (v := .map (some s.cb)) rfl rfl (fun w' hw' => pg_at (h.keep hw') 6 rfl)) ?_
  refine goA ?_
  have hmp := fun (w' : World) (hw' : Hp w none' [] w') => (pg_here (h.keep hw') (it := mapN .i64 s.cb (toP s.C)) (by simp [pgL])).1
  refine l_w rfl (v_lenmapP rfl rfl hmp) ?_
  refine goA ?_
  exact x_pu rfl rfl (by simp [toP])
end Go.Proofs.YtplhamichcnmmaaGreatDoor
