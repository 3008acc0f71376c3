/- package wal: the number behind all numbers of a map. -/
/- package wal: the head that counts. -/
/- Functions of three results: what they answer. -/
/- package wal: the head that counts, of both. -/
/- package wal: the sheets that lie in their places. -/
/- package wal: the texts from a number on. -/
import Derived.Test.YtplhamichcnmmaaGreatDoorHc15
import Derived.Test.YtplhamichcnmmaaGreatDoorHc03
import Derived.Scope
namespace Go.Proofs.YtplhamichcnmmaaGreatDoor
open Go.RowKit Go.Eng
set_option maxRecDepth 100000
set_option maxHeartbeats 40000000
def nxt (p : Nat) : Nat := (p + 1) % 18446744073709551616
def nextF : NRows → Nat → Nat
  | [], v => v
  | p :: L, v => nextF L (max v (nxt p.1))
theorem nextF_le (L : NRows) (v k : Nat) : nextF L v ≤ k ↔ v ≤ k ∧ ∀ p ∈ L, nxt p.1 ≤ k := by
  induction L generalizing v with
  | nil => simp [nextF]
  | cons p L ih =>
    rw [nextF, ih, Nat.max_le]
    simp only [List.mem_cons, forall_eq_or_imp]
    exact ⟨fun ⟨⟨h1, h2⟩, h3⟩ => ⟨h1, h2, h3⟩, fun ⟨h1, h2, h3⟩ => ⟨⟨h1, h2⟩, h3⟩⟩
theorem nextF_ext {L L' : NRows} {v v' : Nat} (h : ∀ k, (v ≤ k ∧ ∀ p ∈ L, nxt p.1 ≤ k) ↔ (v' ≤ k ∧ ∀ p ∈ L', nxt p.1 ≤ k)) : nextF L v = nextF L' v' :=
  Nat.le_antisymm ((nextF_le _ _ _).2 ((h _).2 ((nextF_le _ _ _).1 (Nat.le_refl _)))) ((nextF_le _ _ _).2 ((h _).1 ((nextF_le _ _ _).1 (Nat.le_refl _))))
theorem nextF_out {L : NRows} {p : Nat × Value} (hp : p ∈ L) (v : Nat) : nextF (outN L p) (max v (nxt p.1)) = nextF L v := by
  refine nextF_ext fun k => ?_
  rw [Nat.max_le]
  constructor
  · rintro ⟨⟨h1, h2⟩, h3⟩
    refine ⟨h1, fun x hx => ?_⟩
    by_cases he : x.1 = p.1
    · rw [he]; exact h2
    · exact h3 x (List.mem_filter.2 ⟨hx, by simp [he]⟩)
  · rintro ⟨h1, h2⟩
    exact ⟨⟨h1, h2 p hp⟩, fun x hx => h2 x (List.mem_filter.1 hx).1⟩
theorem outN_len {L : NRows} {p : Nat × Value} (hp : p ∈ L) : (outN L p).length < L.length := by
  refine Nat.lt_of_le_of_ne (List.length_filter_le _ _) (fun h => ?_)
  have := List.length_filter_eq_length_iff.1 h p hp
  simp at this
theorem next_calls (b : Nat) (A : NRows) (hA : ∀ p ∈ A, p.1 < 18446744073709551616) (first : Nat) (hf : first < 18446744073709551616) (w : World) (hw : ∀ it ∈ [mapN .u64 b A], Here it w) :
    Ct Tryz.prog 89 #[.map (some b), .int .u64 first] w (foots [mapN .u64 b A]) (fun _ : Unit => .int .u64 (nextF A first : Nat)) (fun _ => True) (fun _ => [mapN .u64 b A]) := by
  refine cu_of [_, _] _ Tryz.func89 rfl rfl hw (.cons (fun _ h => nomatch h) .nil) ?_
  simp only [argSlots, Nat.reduceAdd]
  refine goA ?_
  refine l_op rfl (o_rangeN rfl rfl rfl) fun ⟨r, hr⟩ => ?_
  refine goA ?_
  refine t_for (α := NRows × Nat × Option (Nat × Value)) (fun y => [(1, .int .u64 y.2.1), (4, .int .u64 0), (7, .pointer (some ⟨r, 0, none⟩))]) (fun y => y.2.1 < 18446744073709551616 ∧ (∀ p ∈ y.1, p.1 < 18446744073709551616) ∧ nextF y.1 y.2.1 = nextF A first) (fun y => [itN .u64 r b A y.1 y.2.2]) (fun y => y.1.length) (A, first, none) ⟨rfl, rfl, rfl, trivial⟩ ⟨hf, hA, rfl⟩ (fun w h => h) fun ⟨L, v, c⟩ ⟨hv, hL, hE⟩ => ?_
  simp only at hv hL hE ⊢
  refine goA ?_
  refine l_op rfl (o_nextN rfl rfl) fun ⟨y, hy⟩ => ?_
  cases y with
  | none =>
    simp only at hy ⊢
    refine goA ?_
    subst hy
    refine x_imp (m' := [mapN .u64 b A]) (fun w' hw' => itN_end hw') (x_ct () rfl rfl (by rw [← hE]; rfl) trivial (.refl _) (by intro it hm; rcases hm with _ | ⟨_, hm⟩ <;> first | exact mapN_stable _ _ _ _ | exact (nomatch hm)))
  | some p =>
    simp only at hy ⊢
    have hp2 := hL p hy
    refine goA ?_
    refine l_w rfl (v_entryN rfl (.head _)) ?_
    refine goA ?_
    refine l_w rfl (v_addUw (a := p.1) (b := 1) rfl rfl) ?_
    have hn : (p.1 + 1) % 18446744073709551616 = nxt p.1 := rfl
    rw [hn]
    have hnl : nxt p.1 < 18446744073709551616 := Nat.mod_lt _ (by decide)
    have hlt := outN_len hy
    have hno := nextF_out hy v
    generalize nxt p.1 = z at hnl hno
    refine goA ?_
    refine l_w rfl (v_max (i := v) (j := z) rfl rfl) ?_
    refine goA ?_
    refine x_round (outN L p, max v z, some p) ⟨rfl, rfl, rfl, trivial⟩ ⟨Nat.max_lt.2 ⟨hv, hnl⟩, fun x hx => hL x (List.mem_filter.1 hx).1, hno.trans hE⟩ (fun w h => h) hlt
end Go.Proofs.YtplhamichcnmmaaGreatDoor

namespace Go.Proofs.YtplhamichcnmmaaGreatDoor
open Go.RowKit Go.Eng
set_option maxRecDepth 100000
set_option maxHeartbeats 40000000
theorem cur_len {D : Dsk} (ok : D.Ok) {i : Nat} (hi : i < D.on.length) : (curF D i).length = 512 := by
  unfold curF
  cases h : D.wait.reverse.find? (fun p => decide (p.2 = i)) with
  | none =>
    show (D.on.getD i []).length = 512
    rw [List.getD_eq_getElem?_getD, List.getElem?_eq_getElem hi]
    exact ok.size _ (List.getElem_mem hi)
  | some p =>
    have hm := List.mem_of_find?_eq_some h
    exact (ok.wsize p (List.mem_reverse.1 hm)).1
def lookF (b : Bys) (i : Nat) (p : Hd × Int) : Hd × Int := if hdOk b && (decide (p.2 < 0) || decide (p.1.gen < (hdT b).gen)) then (hdT b, i) else p
def lookI (bx ba bb : Nat) (d : Dk) (p : Hd × Int) : List Eng.Item := [pt ba (.cells #[.int .i64 p.2] 3 (0, 0)), pt bb (.cells (hdA p.1) 126 (0, 0)), pt bx (.cells #[.pointer (some ⟨d.b, 0, none⟩)] 35 (0, 0)), dkI d, ctI]
theorem lookI_stable (bx ba bb : Nat) (d : Dk) (p : Hd × Int) : ∀ it ∈ lookI bx ba bb d p, it.Stable none' := by
  simp only [lookI, List.mem_cons, List.mem_nil_iff, or_false, forall_eq_or_imp, forall_eq]
  exact ⟨pt_stable _ _ _, pt_stable _ _ _, pt_stable _ _ _, bundle_stable _, ctI_stable _⟩
theorem look_calls (d : Dk) (ok : d.D.Ok) (hlive : d.D.dead = false) (hwl : d.D.wait.length ≤ 1000000000) (i : Nat) (hi : i < d.D.on.length) (bx ba bb : Nat) (p : Hd × Int) (w : World) (hw : ∀ it ∈ lookI bx ba bb d p, Here it w) (ha : (lookI bx ba bb d p).Pairwise Eng.Item.Apart) :
    Ct Tryz.prog 120 #[.int .i64 i, .pointer (some ⟨bx, 0, none⟩), .pointer (some ⟨ba, 0, none⟩), .pointer (some ⟨bb, 0, none⟩)] w (foots (lookI bx ba bb d p)) (fun _ : Unit => .int .i64 0) (fun _ => True) (fun _ => lookI bx ba bb d (lookF (curF d.D i) i p)) := by
  refine cu_of [_, _, _, _] _ Tryz.func120 rfl rfl hw ha ?_
  have hst := lookI_stable bx ba bb d (lookF (curF d.D i) i p)
  unfold lookI
  simp only [argSlots, Nat.reduceAdd]
  refine goA ?_
  refine l_ctg rfl rfl (by kernel_rfl) rfl (fun w1 hw1 => read_calls d ok hlive i hi hwl w1 (Here.of (hw1.item (dkI d) (.tail _ (.tail _ (.tail _ (.head _))))) (bundle_stable _))) fun x hx => ?_
  refine goA ?_
  have hcl := cur_len ok hi
  refine l_opg rfl (o_pure rfl (by kernel_rfl) rfl (fun w1 hw1 => htake_calls (some ⟨x, 0, none⟩) 512 512 (curF d.D i) hcl (by decide) w1 (Rd.mk (hw1.item (rdI x (curF d.D i)) (.head _)).1.1) (hw1.item ctI (.tail _ (.tail _ (.tail _ (.tail _ (.tail _ (.head _))))))).1)) fun _ => ?_
  generalize hT : hdT (curF d.D i) = h
  have hlk : lookF (curF d.D i) i p = if hdOk (curF d.D i) && (decide (p.2 < 0) || decide (p.1.gen < h.gen)) then (h, (i : Int)) else p := by rw [lookF, hT]
  rw [hlk] at hst ⊢
  generalize hdOk (curF d.D i) = k at hst ⊢
  refine goA ?_
  refine l_alloca rfl rfl fun b8 hb8 => ?_
  refine l_op rfl (o_storea (cs' := hdA h) rfl rfl rfl rfl rfl rfl) fun _ => ?_
  refine goA ?_
  cases k with
  | false =>
    rw [Bool.false_and, if_neg (by decide)] at hst ⊢
    refine goA ?_
    exact x_ct () rfl rfl rfl trivial (.cons _ (.cons _ (.refl _))) hst
  | true =>
    by_cases h1 : p.2 < 0
    · rw [Bool.true_and, decide_eq_true h1, Bool.true_or, if_pos rfl] at hst ⊢
      refine goA ?_
      rw [decide_eq_true h1]
      refine goA ?_
      refine l_op rfl (ho_perm (bring3 _ _ _ _ _) (o_storea (cs' := hdA h) rfl rfl rfl rfl rfl rfl)) fun _ => ?_
      refine l_op rfl (ho_perm (bring3 _ _ _ _ _) (o_store1 rfl rfl rfl rfl rfl rfl (by simp))) fun _ => ?_
      refine goA ?_
      exact x_ct () rfl rfl rfl trivial (.cons_cons _ (.cons_cons _ (.cons _ (.cons _ (.refl _))))) hst
    · rw [Bool.true_and, decide_eq_false h1, Bool.false_or] at hst ⊢
      refine goA ?_
      rw [decide_eq_false h1]
      by_cases h2 : p.1.gen < h.gen
      · rw [decide_eq_true h2, if_pos rfl] at hst ⊢
        refine goA ?_
        refine l_op rfl (ho_perm (bring3 _ _ _ _ _) (o_storea (cs' := hdA h) rfl rfl rfl rfl rfl rfl)) fun _ => ?_
        refine l_op rfl (ho_perm (bring3 _ _ _ _ _) (o_store1 rfl rfl rfl rfl rfl rfl (by simp))) fun _ => ?_
        refine goA ?_
        exact x_ct () rfl rfl rfl trivial (.cons_cons _ (.cons_cons _ (.cons _ (.cons _ (.refl _))))) hst
      · rw [decide_eq_false h2, if_neg (by decide)] at hst ⊢
        refine goA ?_
        exact x_ct () rfl rfl rfl trivial (.cons _ (.cons _ (.refl _))) hst
end Go.Proofs.YtplhamichcnmmaaGreatDoor

namespace Go.Eng
open Go Go.RowKit
variable {P : Program} {N : Fm} {l : Slots} {H : World → Prop} {w0 : World} {F : Nat → Prop} {m : List Item}
theorem x_res3 {n : Nat} {fn : Func} {R : Ending → World → Prop} {r q p : ResultVar} {v u t : Value} (hf : fn.results = #[r, q, p]) (h1 : resIs P l H r v) (h2 : resIs P l H q u) (h3 : resIs P l H p t) (h : ∀ w, H w → R (.returned (.tuple #[v, u, t])) w) : HX (bodyPost P fn R) .ret ⟨n, [], none⟩ l H := by
  unfold HX
  intro a w s hw
  have e1 := resIs_run h1 s hw
  have e2 := resIs_run h2 s hw
  have e3 := resIs_run h3 s hw
  refine bodyPost_ret (v := .tuple #[v, u, t]) ?_ s.defers (h w hw)
  cases r with
  | tmp t1 =>
    simp only [] at e1
    cases q with
    | tmp t2 =>
      simp only [] at e2
      cases p with
      | tmp t3 => simp only [] at e3; simp [results, hf, e1, e2, e3]
      | cell t3 ty3 => obtain ⟨z, ez, e3⟩ := e3; simp [results, hf, e1, e2, ez, asAddr, e3]
    | cell t2 ty2 =>
      obtain ⟨y, ey, e2⟩ := e2
      cases p with
      | tmp t3 => simp only [] at e3; simp [results, hf, e1, ey, asAddr, e2, e3]
      | cell t3 ty3 => obtain ⟨z, ez, e3⟩ := e3; simp [results, hf, e1, ey, e2, ez, asAddr, e3]
  | cell t1 ty1 =>
    obtain ⟨x, ex, e1⟩ := e1
    cases q with
    | tmp t2 =>
      simp only [] at e2
      cases p with
      | tmp t3 => simp only [] at e3; simp [results, hf, ex, asAddr, e1, e2, e3]
      | cell t3 ty3 => obtain ⟨z, ez, e3⟩ := e3; simp [results, hf, ex, e1, e2, ez, asAddr, e3]
    | cell t2 ty2 =>
      obtain ⟨y, ey, e2⟩ := e2
      cases p with
      | tmp t3 => simp only [] at e3; simp [results, hf, ex, e1, ey, asAddr, e2, e3]
      | cell t3 ty3 => obtain ⟨z, ez, e3⟩ := e3; simp [results, hf, ex, e1, ey, e2, ez, asAddr, e3]
theorem x_ct3 {n : Nat} {fn : Func} {r q p : ResultVar} {α : Type} {val : α → Value} {φ : α → Prop} {its : α → List Item} {u t v : Value} (x : α) (hf : fn.results = #[r, q, p]) (h1 : resIs P l (Hp w0 F m) r u) (h2 : resIs P l (Hp w0 F m) q t) (h3 : resIs P l (Hp w0 F m) p v) (e : .tuple #[u, t, v] = val x) (hφ : φ x) (hs : (its x).Sublist m) (hst : ∀ it ∈ its x, it.Stable none') : HX (bodyPost P fn (ctPost w0 F val φ its)) .ret ⟨n, [], none⟩ l (Hp w0 F m) :=
  x_res3 hf h1 h2 h3 fun _ hw => ⟨x, by rw [e], hφ, hw.its hs hst⟩
end Go.Eng

namespace Go.Proofs.YtplhamichcnmmaaGreatDoor
open Go.RowKit Go.Eng
set_option maxRecDepth 100000
set_option maxHeartbeats 40000000
def lookN (D : Dsk) : Nat → Hd × Int
  | 0 => (noHd, -1)
  | i + 1 => lookF (curF D i) i (lookN D i)
theorem counts_calls (d : Dk) (ok : d.D.Ok) (hlive : d.D.dead = false) (hwl : d.D.wait.length ≤ 1000000000) (h2 : 2 ≤ d.D.on.length) (w : World) (hw : ∀ it ∈ [dkI d, ctI], Here it w) (ha : [dkI d, ctI].Pairwise Eng.Item.Apart) :
    Ct Tryz.prog 87 #[.pointer (some ⟨d.b, 0, none⟩)] w (foots [dkI d, ctI]) (fun _ : Unit => .tuple #[.agg (hdA (lookN d.D 2).1), .int .i64 (lookN d.D 2).2, .int .i64 0]) (fun _ => True) (fun _ => [dkI d, ctI]) := by
  refine cu_of [_] _ Tryz.func87 rfl rfl hw ha ?_
  simp only [argSlots]
  refine goA ?_
  refine l_box1 rfl rfl rfl fun bx _ => ?_
  refine goA ?_
  refine l_alloca rfl rfl fun b2 hb2 => ?_
  refine goA ?_
  refine l_alloca rfl rfl fun b5 hb5 => ?_
  refine goA ?_
  refine l_alloc1 rfl rfl rfl fun b6 hb6 => ?_
  refine goA ?_
  refine l_op rfl (ho_perm (bring1 _ _ _) (o_storea (cs' := hdA noHd) rfl rfl rfl rfl rfl rfl)) fun _ => ?_
  refine goA ?_
  refine l_op rfl (ho_perm (bring1 _ _ _) (o_store1 rfl rfl rfl rfl rfl rfl (by simp))) fun _ => ?_
  refine goA ?_
  refine l_w rfl (v_mkf rfl) ?_
  refine goA ?_
  have hL : ∀ i, lookI bx b6 b5 d (lookN d.D i) = [pt b6 (.cells #[.int .i64 (lookN d.D i).2] 3 (0, 0)), pt b5 (.cells (hdA (lookN d.D i).1) 126 (0, 0)), pt bx (.cells #[.pointer (some ⟨d.b, 0, none⟩)] 35 (0, 0)), dkI d, ctI] := fun _ => rfl
  refine t_for (α := Nat) (fun i => [(2, .pointer (some ⟨b2, 0, none⟩)), (3, .int .i64 0), (4, .int .i64 0), (5, .pointer (some ⟨b5, 0, none⟩)), (6, .pointer (some ⟨b6, 0, none⟩)), (7, .func (.func 120) #[] #[.pointer (some ⟨bx, 0, none⟩), .pointer (some ⟨b6, 0, none⟩), .pointer (some ⟨b5, 0, none⟩)]), (12, .int .i64 i)]) (fun i => i ≤ 2)
    (fun i => lookI bx b6 b5 d (lookN d.D i) ++ [pt b2 (.cells (hdA noHd) 126 (0, 0))]) (fun i => 2 - i) 0 ⟨rfl, rfl, rfl, rfl, rfl, rfl, rfl, trivial⟩ (Nat.zero_le _) (fun w' hw' => hw'.pick [0, 1, 3, 4, 5, 2] rfl rfl) fun i hi => ?_
  by_cases hi2 : i < 2
  · have hl : lookN d.D (i + 1) = lookF (curF d.D i) i (lookN d.D i) := rfl
    refine goA ?_
    refine l_opg rfl (o_cuF (pre := lookI bx b6 b5 d (lookN d.D i)) (fs := []) (cs := [.pointer (some ⟨bx, 0, none⟩), .pointer (some ⟨b6, 0, none⟩), .pointer (some ⟨b5, 0, none⟩)]) rfl (by kernel_rfl) rfl rfl rfl (lookI_stable _ _ _ _ _) (fun w1 hw1 hh1 ha1 => look_calls d ok hlive hwl i (by omega) bx b6 b5 (lookN d.D i) w1 hh1 ha1)) fun ⟨_, _⟩ => ?_
    rw [← hl]
    refine goA ?_
    exact x_round (i + 1) ⟨rfl, rfl, rfl, rfl, rfl, rfl, rfl, trivial⟩ (show i + 1 ≤ 2 by omega) (fun w' hw' => hw') (by show 2 - (i + 1) < 2 - i; omega)
  · obtain rfl : i = 2 := by omega
    refine goA ?_
    refine t_imp (m' := [pt b2 (.cells (hdA noHd) 126 (0, 0)), pt b6 (.cells #[.int .i64 (lookN d.D 2).2] 3 (0, 0)), pt b5 (.cells (hdA (lookN d.D 2).1) 126 (0, 0)), pt bx (.cells #[.pointer (some ⟨d.b, 0, none⟩)] 35 (0, 0)), dkI d, ctI]) (fun w' hw' => hw'.pick [5, 0, 1, 2, 3, 4] rfl rfl) ?_
    generalize lookN d.D 2 = q
    refine t_drawm [1, 2, 3, 4, 5] 5 rfl rfl (by kernel_rfl) ?_
    refine goE ?_
    refine d_opg 2 ⟨by kernel_rfl, by decide⟩ rfl rfl (o_storea (cs' := hdA q.1) rfl rfl rfl rfl rfl rfl) (fun _ _ h => goH h) fun _ => ?_
    refine goE ?_
    refine d_end (by kernel_rfl) ?_
    refine goA ?_
    exact x_ct3 () rfl ⟨_, rfl, loada_run rfl (.head _)⟩ rfl rfl rfl trivial (.cons _ (.cons _ (.cons _ (.cons _ (.refl _))))) (by intro it hm; rcases hm with _ | ⟨_, _ | ⟨_, hm⟩⟩ <;> first | exact bundle_stable _ | exact ctI_stable _ | exact (nomatch hm))
end Go.Proofs.YtplhamichcnmmaaGreatDoor

namespace Go.Proofs.YtplhamichcnmmaaGreatDoor
open Go.RowKit Go.Eng
set_option maxRecDepth 100000
set_option maxHeartbeats 40000000
def readS (b : Bys) (n i : Nat) (A : NRows) : NRows := if shtOk b && decide (placeF (shtT b).seq n = 2 + i) then insN A (shtT b).seq (.agg (shtA (shtT b))) else A
def readN (D : Dsk) (n : Nat) : Nat → NRows
  | 0 => []
  | i + 1 => readS (curF D (2 + i)) n i (readN D n i)
theorem shtT_seq (b : Bys) : (shtT b).seq < 18446744073709551616 := by
  unfold shtT
  split
  · exact opNlt 8 (b, false)
  · decide
theorem okU {n : Nat} (h : n < 18446744073709551616) : okN .u64 n := by
  simp [okN, Lit.wf, IntKind.min, IntKind.max, IntKind.signed, IntKind.bits]
  omega
theorem wread_calls (d : Dk) (ok : d.D.Ok) (hlive : d.D.dead = false) (hwl : d.D.wait.length ≤ 1000000000) (n : Nat) (hn0 : 0 < n) (hn : 2 + n ≤ d.D.on.length) (w : World) (hd : Here (dkI d) w) (ht : CTab w) :
    Ct Tryz.prog 88 #[.pointer (some ⟨d.b, 0, none⟩), .int .i64 n] w none' (fun b : Nat => .tuple #[.map (some b), .int .i64 0]) (fun _ => True) (fun b => [mapN .u64 b (readN d.D n n)]) := by
  refine ct_of [_, _] Tryz.func88 rfl rfl ?_
  have hmany := ok.many
  simp only [argSlots, Nat.reduceAdd]
  refine goA ?_
  refine l_op rfl (o_makemapN (q := .u64) rfl) fun ⟨b, hb⟩ => ?_
  dsimp only
  refine goA ?_
  refine t_for (α := Nat) (fun i => [(0, .pointer (some ⟨d.b, 0, none⟩)), (1, .int .i64 n), (6, .map (some b)), (13, .int .i64 n), (14, .int .i64 i)]) (fun i => i ≤ n) (fun i => [mapN .u64 b (readN d.D n i)]) (fun i => n - i) 0 ⟨rfl, rfl, rfl, rfl, rfl, trivial⟩ (Nat.zero_le _) (fun w' hw' => hw') fun i hi => ?_
  by_cases hi2 : i < n
  · have hl : readN d.D n (i + 1) = readS (curF d.D (2 + i)) n i (readN d.D n i) := rfl
    generalize readN d.D n i = A at hl
    refine goA ?_
    refine l_ctg rfl rfl (by kernel_rfl) rfl (fun w1 hw1 => read_calls d ok hlive (2 + i) (by omega) hwl w1 (hd.keep hw1)) fun x hx => ?_
    have hcl := cur_len ok (i := 2 + i) (by omega)
    refine goA ?_
    refine l_opg rfl (o_pure rfl (by kernel_rfl) rfl (fun w1 hw1 => shtake_calls (some ⟨x, 0, none⟩) 512 512 (curF d.D (2 + i)) hcl (by decide) w1 (Rd.mk (hw1.item (rdI x (curF d.D (2 + i))) (.head _)).1.1) (ht.keep hw1))) fun _ => ?_
    have hsq := shtT_seq (curF d.D (2 + i))
    unfold readS at hl
    generalize shtT (curF d.D (2 + i)) = s at hl hsq
    generalize shtOk (curF d.D (2 + i)) = k at hl
    refine goA ?_
    refine l_alloca rfl rfl fun b10 hb10 => ?_
    refine l_op rfl (o_storea (cs' := shtA s) rfl rfl rfl rfl rfl rfl) fun _ => ?_
    refine goA ?_
    cases k with
    | false =>
      rw [Bool.false_and, if_neg (by decide)] at hl
      simp only [Bool.false_eq_true, if_false]
      refine goA ?_
      refine x_round (i + 1) ⟨rfl, rfl, rfl, rfl, rfl, trivial⟩ (show i + 1 ≤ n by omega) (fun w' hw' => by rw [hl]; exact hw'.sub (.cons _ (.cons _ (.refl _)))) (by show n - (i + 1) < n - i; omega)
    | true =>
      rw [Bool.true_and] at hl
      simp only [if_true]
      refine goA ?_
      refine l_opg rfl (o_pure rfl (by kernel_rfl) rfl (fun w1 hw1 => place_calls s.seq n hsq hn0 (by omega) w1)) fun _ => ?_
      refine goA ?_
      have e : (((placeF s.seq n : Nat) : Int) == ((2 + i : Nat) : Int)) = decide (placeF s.seq n = 2 + i) := by
        by_cases h : placeF s.seq n = 2 + i
        · rw [h, decide_eq_true rfl]; exact beq_self_eq_true _
        · rw [decide_eq_false h]; exact beq_eq_false_iff_ne.2 (fun hh => h (Int.ofNat.inj hh))
      rw [e]
      by_cases hq : placeF s.seq n = 2 + i
      · rw [decide_eq_true hq, if_pos rfl] at hl
        rw [decide_eq_true hq]
        refine goA ?_
        refine l_op rfl (ho_perm (bring2 _ _ _ _) (o_mapupN (q := .u64) (h := s.seq) rfl rfl rfl rfl rfl rfl (okU hsq))) fun _ => ?_
        refine goA ?_
        refine x_round (i + 1) ⟨rfl, rfl, rfl, rfl, rfl, trivial⟩ (show i + 1 ≤ n by omega) (fun w' hw' => by rw [hl]; exact hw'.sub (.cons_cons _ (List.nil_sublist _))) (by show n - (i + 1) < n - i; omega)
      · rw [decide_eq_false hq, if_neg (by decide)] at hl
        rw [decide_eq_false hq]
        refine goA ?_
        refine x_round (i + 1) ⟨rfl, rfl, rfl, rfl, rfl, trivial⟩ (show i + 1 ≤ n by omega) (fun w' hw' => by rw [hl]; exact hw'.sub (.cons _ (.cons _ (.refl _)))) (by show n - (i + 1) < n - i; omega)
  · obtain rfl : i = n := by omega
    refine goA ?_
    exact x_ct2 b rfl rfl rfl rfl trivial (.refl _) (by intro it hm; rcases hm with _ | ⟨_, hm⟩ <;> first | exact mapN_stable _ _ _ _ | exact (nomatch hm))
end Go.Proofs.YtplhamichcnmmaaGreatDoor

namespace Go.Eng
variable {P : Program} {l : Slots} {H : World → Prop} {Q : Exit → Act → World → Prop} {N : Fm}
theorem t_scope {n : Nat} {ds : List Deferred} {c : Code} (h : HT P c (Exit.noGoto Q) ⟨n, ds, none⟩ l H) : HT P (.scope c) Q ⟨n, ds, none⟩ l H := by
  unfold HT at *
  exact fun a w s hw => wpIn_wide.2 (wp_scope_straight (wpIn_wide.1 (h a w s hw)))
theorem t_label {i : Nat} (h : HX Q .normal N l H) : HT P (.label i) Q N l H := by
  unfold HT HX at *
  exact fun a w s hw => wpIn_label (h a w s hw)
theorem x_scope_ret (h : HX Q .ret N l H) : HX (Exit.noGoto Q) .ret N l H := by
  unfold HX at *
  exact h
end Go.Eng
namespace Go.Proofs.YtplhamichcnmmaaGreatDoor
open Go.RowKit Go.Eng
set_option maxRecDepth 100000
set_option maxHeartbeats 40000000
abbrev SRows := List (Nat × Sht)
def toN (B : SRows) : NRows := B.map fun p => (p.1, .agg (shtA p.2))
theorem toN_lookup (B : SRows) (n : Nat) : (toN B).lookup n = (B.lookup n).map (fun s => Value.agg (shtA s)) := by
  induction B with
  | nil => rfl
  | cons p B ih =>
    obtain ⟨k, s⟩ := p
    show List.lookup n ((k, Value.agg (shtA s)) :: toN B) = _
    rw [List.lookup_cons, List.lookup_cons]
    by_cases h : n = k
    · subst h; simp
    · rw [show (n == k) = false from beq_eq_false_iff_ne.2 h]; exact ih
theorem lookup_memS {B : SRows} {n : Nat} {s : Sht} (h : B.lookup n = some s) : (n, s) ∈ B := by
  induction B with
  | nil => cases h
  | cons p B ih =>
    obtain ⟨k, t⟩ := p
    rw [List.lookup_cons] at h
    by_cases hk : n = k
    · subst hk; simp at h; subst h; exact .head _
    · rw [show (n == k) = false from beq_eq_false_iff_ne.2 hk] at h
      exact .tail _ (ih h)
def textsF (B : SRows) : Nat → Nat → Bys → List Bys → List Bys
  | 0, _, _, acc => acc
  | f + 1, n, cur, acc => match B.lookup n with
    | none => acc
    | some s => if s.last then textsF B f (nxt n) [] (acc ++ [cur ++ s.text]) else textsF B f (nxt n) (cur ++ s.text) acc
def farN (B : SRows) (first k : Nat) : SRows := B.filter fun p => decide (k ≤ (p.1 + 18446744073709551616 - first) % 18446744073709551616)
theorem far_lt {B : SRows} {first k : Nat} {s : Sht} (hf : first < 18446744073709551616) (hk : k < 18446744073709551616) (h : B.lookup ((first + k) % 18446744073709551616) = some s) : (farN B first (k + 1)).length < (farN B first k).length := by
  have hm := lookup_memS h
  have e : farN B first (k + 1) = (farN B first k).filter fun p => decide (k + 1 ≤ (p.1 + 18446744073709551616 - first) % 18446744073709551616) := by
    unfold farN
    rw [List.filter_filter]
    refine List.filter_congr fun p _ => ?_
    by_cases h1 : k + 1 ≤ (p.1 + 18446744073709551616 - first) % 18446744073709551616
    · simp [h1]; omega
    · simp [h1]
  have ho : ((first + k) % 18446744073709551616 + 18446744073709551616 - first) % 18446744073709551616 = k := by omega
  rw [e]
  refine Nat.lt_of_le_of_ne (List.length_filter_le _ _) (fun hh => ?_)
  have := List.length_filter_eq_length_iff.1 hh ((first + k) % 18446744073709551616, s) (List.mem_filter.2 ⟨hm, by rw [decide_eq_true_eq, ho]; exact Nat.le_refl _⟩)
  rw [decide_eq_true_eq, ho] at this
  omega
structure TxS where
  k : Nat
  n : Nat
  cur : Bys
  acc : List Bys
  p : Option Addr
  ob : Option (Nat × Nat)
  o : Option (Nat × Nat)
def strsV (l : List Bys) : List Value := l.map fun s => .string ⟨s.toArray⟩
theorem texts_calls (b : Nat) (B : SRows) (hB : ∀ p ∈ B, p.2.text.length ≤ 497 ∧ p.2.text ≠ []) (hBl : B.length ≤ 4096) (first : Nat) (hf : first < 18446744073709551616) (w : World) (hw : ∀ it ∈ [mapN .u64 b (toN B)], Here it w) :
    Ct Tryz.prog 90 #[.map (some b), .int .u64 first] w (foots [mapN .u64 b (toN B)]) (fun o : Option (Nat × Nat) => slV o (textsF B (B.length + 1) first [] []).length) (fun _ => True) (fun o => [own 9 1 o (textsF B (B.length + 1) first [] []).length (strsV (textsF B (B.length + 1) first [] [])), mapN .u64 b (toN B)]) := by
  refine cu_of [_, _] _ Tryz.func90 rfl rfl hw (.cons (fun _ h => nomatch h) .nil) ?_
  simp only [argSlots, Nat.reduceAdd]
  refine goA ?_
  refine t_scope ?_
  refine goA ?_
  refine l_alloca rfl rfl fun b6 hb6 => ?_
  refine goA ?_
  refine t_label ?_
  refine goA ?_
  obtain ⟨R, hR⟩ : ∃ R, textsF B (B.length + 1) first [] [] = R := ⟨_, rfl⟩
  rw [hR]
  refine t_for (α := TxS) (fun y => [(0, .map (some b)), (5, slV y.o y.acc.length), (6, .pointer (some ⟨b6, 0, none⟩)), (7, .int .u64 y.n)]) (fun y => y.n = (first + y.k) % 18446744073709551616 ∧ y.k + (farN B first y.k).length ≤ B.length ∧ textsF B (B.length + 1 - y.k) y.n y.cur y.acc = R ∧ y.cur.length ≤ 497 * y.k ∧ y.acc.length ≤ y.k ∧ (y.p = none ∨ y.p = some ⟨b6, 0, none⟩))
    (fun y => blS b6 y.p y.ob y.cur ++ [own 9 1 y.o y.acc.length (strsV y.acc), mapN .u64 b (toN B)]) (fun y => (farN B first y.k).length) ⟨0, first, [], [], none, none, none⟩ ⟨rfl, rfl, rfl, rfl, trivial⟩ ⟨(Nat.mod_eq_of_lt hf).symm, by rw [Nat.zero_add]; exact List.length_filter_le _ _, hR, Nat.zero_le _, Nat.zero_le _, .inl rfl⟩ (fun w' hw' => ?_) fun ⟨k, n, cur, acc, p, ob, o⟩ ⟨h1, h2, h3, h4, h5, h6⟩ => ?_
  · have g1 := hp_nil1 9 1 hw'
    have g2 := (hp_nil1 5 1 g1).imp (it' := ownF 5 none 0 []) (fun k h => h) (fun h => own_ownF h) (ownF_stable _ _ _ _ _)
    exact g2.pick [2, 0, 1, 3] rfl rfl
  simp only at h1 h2 h3 h4 h5 h6 ⊢
  have hn : n < 18446744073709551616 := by rw [h1]; exact Nat.mod_lt _ (by decide)
  have hfu : B.length + 1 - k = (B.length - k) + 1 := by omega
  rw [hfu, textsF] at h3
  refine goA ?_
  refine l_w rfl (v_lookN (q := .u64) (h := n) rfl rfl rfl rfl rfl (okU hn) (.tail _ (.tail _ (.tail _ (.head _))))) ?_
  rw [toN_lookup]
  cases hlk : B.lookup n with
  | none =>
    rw [hlk] at h3
    simp only [Option.map_none, Option.getD_none, Option.isSome_none] at h3 ⊢
    subst h3
    refine goA ?_
    refine l_alloca rfl rfl fun b8 hb8 => ?_
    refine l_op rfl (o_storea (cs' := #[.int .u64 0, .bool false, .string ⟨#[]⟩]) rfl rfl rfl rfl rfl rfl) fun _ => ?_
    refine goA ?_
    refine x_scope_ret ?_
    exact x_ct o rfl rfl rfl trivial (.cons _ (.cons _ (.cons _ (.refl _)))) (by intro it hm; rcases hm with _ | ⟨_, _ | ⟨_, hm⟩⟩ <;> first | exact own_stable _ _ _ _ _ _ | exact mapN_stable _ _ _ _ | exact (nomatch hm))
  | some s =>
    rw [hlk] at h3
    simp only [Option.map_some, Option.getD_some, Option.isSome_some] at h3 ⊢
    obtain ⟨hs1, hs2⟩ : s.text.length ≤ 497 ∧ s.text ≠ [] := hB _ (lookup_memS hlk)
    refine goA ?_
    refine l_alloca rfl rfl fun b8 hb8 => ?_
    refine l_op rfl (o_storea (cs' := shtA s) rfl rfl rfl rfl rfl rfl) fun _ => ?_
    refine goA ?_
    refine l_pick [1, 2, 3, 4, 0] rfl rfl ?_
    refine l_opg rfl (o_cu (pre := blS b6 p ob cur) rfl (by kernel_rfl) rfl (by simp [pt_stable, ownF_stable]) (fun w1 hw1 hh1 ha1 => bwrite_calls b6 p h6 ob cur s.text (by omega) w1 hh1 ha1)) fun ⟨ob2, _⟩ => ?_
    dsimp only
    have hk64 : k < 18446744073709551616 := by omega
    have hlt := far_lt hf hk64 (by rw [← h1]; exact hlk)
    have hnx : nxt n = (first + (k + 1)) % 18446744073709551616 := by rw [nxt, h1]; omega
    have hnl : nxt n < 18446744073709551616 := Nat.mod_lt _ (by decide)
    have hfu2 : B.length + 1 - (k + 1) = B.length - k := by omega
    have hnd : (n + 1) % 18446744073709551616 = nxt n := rfl
    have hcl : (cur ++ s.text).length ≤ 497 * (k + 1) := by rw [List.length_append]; omega
    have hne : cur ++ s.text ≠ [] := fun h => hs2 (List.append_eq_nil_iff.1 h).2
    generalize cur ++ s.text = C at h3 hcl hne ⊢
    rw [← hfu2] at h3
    refine goA ?_
    cases hls : s.last with
    | false =>
      rw [hls, if_neg (by decide)] at h3
      refine goA ?_
      refine l_w rfl (v_addUw (a := n) (b := 1) rfl rfl) ?_
      rw [hnd]
      generalize nxt n = z at h3 hnx hnl
      refine goA ?_
      exact x_round ⟨k + 1, z, C, acc, some ⟨b6, 0, none⟩, ob2, o⟩ ⟨rfl, rfl, rfl, rfl, trivial⟩ ⟨hnx, by show k + 1 + (farN B first (k + 1)).length ≤ B.length; omega, h3, hcl, Nat.le_succ_of_le h5, .inr rfl⟩ (fun w' hw' => hw'.sub (.cons_cons _ (.cons_cons _ (.cons_cons _ (.cons_cons _ (List.nil_sublist _)))))) hlt
    | true =>
      rw [hls, if_pos rfl] at h3
      refine goA ?_
      refine l_opg rfl (o_cu (pre := blS b6 (some ⟨b6, 0, none⟩) ob2 C) rfl (by kernel_rfl) rfl (by simp [pt_stable, ownF_stable]) (fun w1 hw1 hh1 ha1 => bstring_calls b6 _ ob2 C hne w1 hh1 ha1)) fun ⟨_, _⟩ => ?_
      refine goA ?_
      refine l_op rfl (o_buildslice rfl rfl rfl rfl rfl rfl) fun ⟨bq, hbq⟩ => ?_
      refine goA ?_
      refine l_op rfl (ho_perm (bring3 _ _ _ _ _) (o_append (news := [.string ⟨C.toArray⟩]) rfl rfl rfl rfl rfl rfl rfl rfl (by omega) (fun w' hw' j v hj => by rw [add_at, Nat.zero_add]; exact own_rd (hw'.item _ (.tail _ (.head _))).1 j v hj))) fun o' => ?_
      have hal : (acc ++ [C]).length = acc.length + 1 := by simp
      have hsv : strsV (acc ++ [C]) = strsV acc ++ [.string ⟨C.toArray⟩] := by simp [strsV]
      rw [← hal, ← hsv]
      refine goA ?_
      refine l_pick [2, 3, 0, 4] rfl rfl ?_
      refine l_opg rfl (o_cu (pre := blS b6 (some ⟨b6, 0, none⟩) ob2 C) rfl (by kernel_rfl) rfl (by simp [pt_stable, ownF_stable]) (fun w1 hw1 hh1 ha1 => breset_calls b6 _ ob2 C w1 hh1 ha1)) fun ⟨_, _⟩ => ?_
      refine goA ?_
      refine l_w rfl (v_addUw (a := n) (b := 1) rfl rfl) ?_
      rw [hnd]
      generalize nxt n = z at h3 hnx hnl
      have hal2 : (acc ++ [C]).length ≤ k + 1 := by omega
      generalize acc ++ [C] = E at h3 hal2
      refine goA ?_
      exact x_round ⟨k + 1, z, [], E, none, none, o'⟩ ⟨rfl, rfl, rfl, rfl, trivial⟩ ⟨hnx, by show k + 1 + (farN B first (k + 1)).length ≤ B.length; omega, h3, Nat.zero_le _, hal2, .inl rfl⟩ (fun w' hw' => hw') hlt
end Go.Proofs.YtplhamichcnmmaaGreatDoor
