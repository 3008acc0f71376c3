/- law 8: many puts. -/
/- law 8: Does, whatever act; Great. -/
/- law 8: Great. -/
import Derived.Test.YtplhamichcnmmaaGreatDoorHc44
namespace Go.Eng
open Go.RowKit
theorem v_remZ {P : Program} {l : Slots} {H : World → Prop} {x y : Operand} {xt yt ty : TypeId} {q : IntKind} {a : Int} {b : Nat} (hx : evO l x = some (.int q a)) (hy : evO l y = some (.int q b)) (h : 0 < b) : OV P (.binOp .rem xt x y yt) ty l H (.int q (a.tmod b)) :=
  v_bin hx hy fun w => by
    have h0 : (b : Int) ≠ 0 := by omega
    show ((binOp .rem xt (.int q a) (.int q b)).run P w) = _
    simp only [binOp, Op.intDiv, h0, if_false, ne_eq, not_true, if_false]
    rfl
theorem v_addI {P : Program} {l : Slots} {H : World → Prop} {ty : TypeId} {x y : Operand} {T U : TypeId} {a b : Int} (hx : evO l x = some (.int .i64 a)) (hy : evO l y = some (.int .i64 b)) (h : -9223372036854775808 ≤ a + b ∧ a + b < 9223372036854775808) : OV P (.binOp .add T x y U) ty l H (.int .i64 (a + b)) := v_bin hx hy fun w => val_int w (i64_in _ h.1 h.2)
theorem v_addU8 {P : Program} {l : Slots} {H : World → Prop} {x y : Operand} {T U ty : TypeId} {a b : Nat} (hx : evO l x = some (.int .u8 (a : Int))) (hy : evO l y = some (.int .u8 (b : Int))) : OV P (.binOp .add T x y U) ty l H (.int .u8 (((a + b) % 256 : Nat) : Int)) := v_bin hx hy fun w => val_int w (by rw [← Int.natCast_add]; exact u8_wrap_nat _)
end Go.Eng
namespace Go.Proofs.YtplhamichcnmmaaGreatDoor
open Go.RowKit Go.Eng Go.Eng.Bm
set_option maxRecDepth 100000
set_option maxHeartbeats 40000000
theorem tm_120 (N : Int) : ∃ m : Nat, m < 120 ∧ (N.tmod 120 + 120).tmod 120 = m := by
  have h1 : -120 < N.tmod 120 ∧ N.tmod 120 < 120 := by
    constructor
    · have : (N.tmod 120).natAbs = N.natAbs % 120 := Int.natAbs_tmod N 120
      have := Nat.mod_lt N.natAbs (show 0 < 120 by decide)
      omega
    · exact Int.tmod_lt_of_pos N (by decide)
  refine ⟨((N.tmod 120 + 120).tmod 120).toNat, ?_, ?_⟩
  · have := Int.tmod_lt_of_pos (N.tmod 120 + 120) (b := 120) (by decide)
    have := Int.tmod_nonneg (a := N.tmod 120 + 120) 120 (by omega)
    omega
  · have := Int.tmod_nonneg (a := N.tmod 120 + 120) 120 (by omega)
    omega
theorem many_calls (log : Nat) (x : Lw) (B : Nat) (ok : LwOk x log B) (k : Nat) (N : Int) (c : UInt8) (keep : Bys) (w : World) (hw : ∀ it ∈ lwL log x, Here it w) (ha : (lwL log x).Pairwise Eng.Item.Apart) :
    Ct Tryz.prog 38 #[.pointer (some ⟨x.xb, 0, none⟩), .agg (actA k N c keep)] w (foots (lwL log x)) (fun _ : Lw => .bool true) (DoesP x log B) (fun y => lwL log y) := by
  refine cu_of [_, _] _ Tryz.func38 rfl rfl hw ha ?_
  obtain ⟨m, hm, hmm⟩ := tm_120 N
  have htm : -120 < N.tmod 120 ∧ N.tmod 120 < 120 := by
    constructor
    · have : (N.tmod 120).natAbs = N.natAbs % 120 := Int.natAbs_tmod N 120
      have := Nat.mod_lt N.natAbs (show 0 < 120 by decide)
      omega
    · exact Int.tmod_lt_of_pos N (by decide)
  simp only [argSlots, Nat.reduceAdd]
  refine goA ?_
  refine l_boxa rfl rfl fun b3 hb3 => ?_
  refine goA ?_
  refine l_w rfl (v_remZ (a := N) (b := 120) rfl rfl (by decide)) ?_
  refine l_w rfl (v_addI (a := N.tmod 120) (b := 120) rfl rfl ⟨by omega, by omega⟩) ?_
  refine l_w rfl (v_remZ (a := N.tmod 120 + 120) (b := 120) rfl rfl (by decide)) ?_
  rw [show (((120 : Nat) : Int)) = 120 from rfl, hmm]
  refine goA ?_
  refine t_for (α := Nat × Lw) (fun y => [(0, .pointer (some ⟨x.xb, 0, none⟩)), (3, .pointer (some ⟨b3, 0, none⟩)), (4, .bool false), (5, .int .i64 (m : Int)), (6, .int .i64 y.1)]) (fun y => 1 ≤ y.1 ∧ y.1 ≤ m + 1 ∧ DoesP x log B y.2)
    (fun y => lwL log y.2 ++ [acC b3 k N c keep]) (fun y => m + 1 - y.1) (1, x) ⟨rfl, rfl, rfl, rfl, rfl, trivial⟩ ⟨Nat.le_refl _, by show 1 ≤ m + 1; omega, rfl, rfl, fun _ h => h, ok, id⟩ (fun w' hw' => hw'.perm (List.perm_append_comm (l₁ := [acC b3 k N c keep]))) fun ⟨i, y⟩ ⟨hi1, hi2, hy⟩ => ?_
  dsimp only at hi1 hi2 hy ⊢
  obtain ⟨hxb, hdb, hsub, ⟨hst, ar, hl1, hl2, hB⟩, hleft⟩ := hy
  have hl := hst.len
  have hn := hst.hn
  rw [← hxb]
  generalize hx0 : x.xb = x0 at hxb
  obtain ⟨xb, s, d, pv, cv, pm, V, C, A⟩ := y
  dsimp only at hxb hdb hsub hst ar hleft hl hn ⊢
  unfold lwL lwC
  dsimp only
  by_cases him : i ≤ m
  · refine goA ?_
    refine l_w rfl (v_addU8 (a := c.toNat) (b := i) rfl rfl) ?_
    obtain ⟨c', hc'⟩ : ∃ c' : UInt8, c'.toNat = (c.toNat + i) % 256 := ⟨UInt8.ofNat (c.toNat + i), by simp⟩
    rw [← hc']
    refine goA ?_
    refine l_ctg rfl rfl (by kernel_rfl) rfl (fun w1 hw1 => full_calls c' w1) fun bf _ => ?_
    simp only [List.cons_append, List.nil_append]
    have hfl : (fullB c').length = 512 := List.length_replicate
    generalize fullB c' = T at hfl ⊢
    refine goA ?_
    refine t_drawm [0, 1, 2, 3, 4, 5, 6, 7] 14 rfl rfl (by kernel_rfl) ?_
    (repeat first | (apply d_w [3, 6] rfl rfl rfl (by kernel_rfl) (fun _ h => by first | exact h | exact Hp.sub h (.cons _ (.refl _)) | exact Hp.sub h (.cons _ (.cons _ (.refl _))) | exact Hp.sub h (.cons _ (.cons _ (.cons _ (.refl _)))) | exact Hp.sub h (.cons _ (.cons _ (.cons _ (.cons _ (.refl _))))) | exact Hp.sub h (.cons _ (.cons _ (.cons _ (.cons _ (.cons _ (.refl _)))))) | exact Hp.sub h (.cons _ (.cons _ (.cons _ (.cons _ (.cons _ (.cons _ (.refl _))))))) | exact Hp.sub h (.cons_cons _ (.cons_cons _ (List.nil_sublist _))) | exact Hp.sub h (.cons _ (.cons_cons _ (.cons_cons _ (List.nil_sublist _))))); focus (first | exact v_move rfl | exact v_assign rfl | exact v_bt rfl rfl | exact v_extract rfl rfl | exact v_field0 rfl rfl | exact v_field rfl rfl | exact v_lens rfl rfl | exact v_lenstr rfl rfl | exact v_nt rfl | exact v_load1p rfl rfl (by repeat first | exact .head _ | apply List.Mem.tail) | exact v_loadn rfl rfl (by repeat first | exact .head _ | apply List.Mem.tail) rfl | exact v_loadp rfl rfl (by repeat first | exact .head _ | apply List.Mem.tail) rfl | exact v_loada rfl rfl (by repeat first | exact .head _ | apply List.Mem.tail) | exact v_eqb rfl rfl rfl | exact v_slA rfl rfl rfl | exact v_builds rfl rfl rfl rfl rfl | exact v_eqs rfl rfl | exact v_nc rfl | exact v_caps rfl rfl | exact v_eqpn rfl rfl rfl | exact v_nepn rfl rfl rfl | exact v_neps rfl rfl rfl rfl | ((first | refine v_bn rfl rfl ?_ | refine v_is1 rfl rfl rfl ?_ | refine v_ia1 rfl rfl rfl ?_ | refine v_sa rfl rfl rfl ?_ | refine v_sF rfl rfl rfl ?_ | refine v_sT rfl rfl rfl ?_ | refine v_sFT rfl rfl rfl rfl ?_ | refine v_lF rfl rfl rfl rfl ?_ | refine v_is rfl rfl rfl ?_ | refine v_ia rfl rfl rfl ?_ | refine v_lT rfl rfl rfl rfl ?_ | refine v_cv rfl rfl rfl ?_ | refine v_slLH rfl rfl rfl rfl rfl ?_ | refine v_sl3 rfl rfl rfl rfl rfl ?_); first | omega | assumption) | exact v_pT rfl rfl (by first | omega | assumption | (simp; done) | exact fun h => h (by assumption) | fail) | exact v_pF rfl rfl (by first | omega | assumption | (simp; done) | exact fun h => h (by assumption) | fail) | exact v_pickB rfl rfl rfl)) | refine d_no [3, 6] rfl rfl rfl (by kernel_rfl) (fun _ h => by first | exact h | exact Hp.sub h (.cons _ (.refl _)) | exact Hp.sub h (.cons _ (.cons _ (.refl _))) | exact Hp.sub h (.cons _ (.cons _ (.cons _ (.refl _)))) | exact Hp.sub h (.cons _ (.cons _ (.cons _ (.cons _ (.refl _))))) | exact Hp.sub h (.cons _ (.cons _ (.cons _ (.cons _ (.cons _ (.refl _)))))) | exact Hp.sub h (.cons _ (.cons _ (.cons _ (.cons _ (.cons _ (.cons _ (.refl _))))))) | exact Hp.sub h (.cons_cons _ (.cons_cons _ (List.nil_sublist _))) | exact Hp.sub h (.cons _ (.cons_cons _ (.cons_cons _ (List.nil_sublist _))))) ?_ | refine d_T [3, 6] rfl rfl rfl rfl (by first | omega | assumption | (simp; done) | exact fun h => h (by assumption) | fail) ?_ | refine d_F [3, 6] rfl rfl rfl rfl (by first | omega | assumption | (simp; done) | exact fun h => h (by assumption) | fail) ?_)
    refine d_v [6] rfl rfl (by kernel_rfl) (fun _ h => by first | exact h | exact Hp.sub h (.cons _ (.refl _)) | exact Hp.sub h (.cons _ (.cons _ (.refl _))) | exact Hp.sub h (.cons _ (.cons _ (.cons _ (.refl _)))) | exact Hp.sub h (.cons _ (.cons _ (.cons _ (.cons _ (.refl _))))) | exact Hp.sub h (.cons _ (.cons _ (.cons _ (.cons _ (.cons _ (.refl _)))))) | exact Hp.sub h (.cons _ (.cons _ (.cons _ (.cons _ (.cons _ (.cons _ (.refl _))))))) | exact Hp.sub h (.cons_cons _ (.cons_cons _ (List.nil_sublist _))) | exact Hp.sub h (.cons _ (.cons_cons _ (.cons_cons _ (List.nil_sublist _))))) rfl rfl (v_lw rfl (by repeat first | exact .head _ | apply List.Mem.tail)) ?_
    refine d_v [] rfl rfl (by kernel_rfl) (fun _ h => by first | exact h | exact Hp.sub h (.cons _ (.refl _)) | exact Hp.sub h (.cons _ (.cons _ (.refl _))) | exact Hp.sub h (.cons _ (.cons _ (.cons _ (.refl _)))) | exact Hp.sub h (.cons _ (.cons _ (.cons _ (.cons _ (.refl _))))) | exact Hp.sub h (.cons _ (.cons _ (.cons _ (.cons _ (.cons _ (.refl _)))))) | exact Hp.sub h (.cons _ (.cons _ (.cons _ (.cons _ (.cons _ (.cons _ (.refl _))))))) | exact Hp.sub h (.cons_cons _ (.cons_cons _ (List.nil_sublist _))) | exact Hp.sub h (.cons _ (.cons_cons _ (.cons_cons _ (List.nil_sublist _))))) rfl rfl (v_bstr (bs := T) rfl hfl.symm rfl rfl (fun w' hw' => .inr ⟨bf, 0, rfl, (hw'.item (rdI bf T) (.head _)).1.1⟩)) ?_
    refine d_share (n' := 2) (listed' := #[true, true, true, true, true, true, true, true, true, true, true, true, false, false]) (fun p : Nat × Nat => [(0, .pointer (some ⟨xb, 0, none⟩)), (3, .pointer (some ⟨b3, 0, none⟩)), (4, .bool false), (5, .int .i64 (m : Int)), (6, .int .i64 (i : Int)), (7, .slice (some ⟨bf, 0, none⟩) 512 512), (8, .pointer (some ⟨p.2, 0, none⟩)), (35, wV pv cv V p.1), (36, .int .i64 0)])
      (fun p => [pt p.2 (.cells #[.slice none 0 0, .map none] 39 (0, 0)), mC p.1 (withF V.length C i T), rdI bf T, pt xb (.cells (lwA log d.b s.b pv V.length cv pm) 41 (0, 0)), pgI s d, dkI d, ctI, tzI, arI A, acC b3 k N c keep]) ?_ (fun hk => ?_)
    rotate_left
    · refine d_two 7 11 ⟨by kernel_rfl, by decide, by decide⟩ rfl rfl rfl rfl (o_ct rfl (by kernel_rfl) rfl (fun w1 hw1 => rput_ok pv cv V pm C i hi1 (by omega) T hfl (by omega) w1 (ar_here (Here.of (hw1.item (arI A) (by repeat first | exact .head _ | apply List.Mem.tail)) (ar_stable A)) ar.map))) (o_alloc rfl rfl) (fun _ _ h => goH h) (fun _ _ h => goH h) (fun ⟨pm', _⟩ => ?_) (fun ⟨b8, _⟩ => ?_)
      · simp only [List.cons_append, List.nil_append]
        refine goE ?_
        refine d_opg 11 ⟨by kernel_rfl, by decide⟩ rfl rfl (o_alloc rfl rfl) (fun _ _ h => goH h) fun ⟨b8, _⟩ => ?_
        exact hk (pm', b8) _ ⟨rfl, rfl, rfl, rfl, rfl, rfl, rfl, rfl, rfl, trivial⟩
      · refine d_opg 7 ⟨by kernel_rfl, by decide⟩ rfl rfl (o_ct rfl (by kernel_rfl) rfl (fun w1 hw1 => rput_ok pv cv V pm C i hi1 (by omega) T hfl (by omega) w1 (ar_here (Here.of (hw1.item (arI A) (by repeat first | exact .head _ | apply List.Mem.tail)) (ar_stable A)) ar.map))) (fun _ _ h => goH h) fun ⟨pm', _⟩ => ?_
        simp only [List.cons_append, List.nil_append]
        refine goE ?_
        refine d_perm (.swap _ _ _) ?_
        exact hk (pm', b8) _ ⟨rfl, rfl, rfl, rfl, rfl, rfl, rfl, rfl, rfl, trivial⟩
    · rintro ⟨pm', b8⟩
      dsimp only
      refine d_opg 12 ⟨by kernel_rfl, by decide⟩ rfl rfl (o_storea (cs' := #[.slice (some ⟨pv, 0, none⟩) V.length cv, .map (some pm')]) rfl rfl rfl rfl rfl rfl) (fun _ _ h => goH h) fun _ => ?_
      refine goE ?_
      refine d_end (by kernel_rfl) ?_
      refine goA ?_
      refine l_op rfl (ho_perm (bring3 _ _ _ _ _) (o_storerE (V := [.slice (some ⟨pv, 0, none⟩) V.length cv, .map (some pm')]) rfl rfl rfl rfl rfl rfl (show (2 + 2 : Nat) ≤ 5 from by decide))) fun _ => ?_
      refine goA ?_
      refine l_pick [4, 3, 0, 5, 6, 7, 8, 9, 2] rfl rfl ?_
      have hgood : ¬ ((i : Int) < 1 ∨ (s.n : Int) ≤ (i : Int)) := by omega
      refine l_opg rfl (o_cu (pre := [pgI s d]) rfl (by kernel_rfl) rfl (pg1_stable s d) (fun w1 hw1 hh1 ha1 => pgput_calls s d i T hfl (some ⟨bf, 0, none⟩) 512 hst.dead (by omega) w1 hh1 (.inr ⟨bf, 0, rfl, (hw1.item (rdI bf T) (by repeat first | exact .head _ | apply List.Mem.tail)).1.1⟩) (rd_apart hw1))) fun ⟨_, _⟩ => ?_
      simp only [if_neg hgood]
      have hst2 := hst.ins (i := i) (b := T) (by omega) hfl (by omega)
      simp only [List.cons_append, List.nil_append]
      refine goA ?_
      exact x_round (i + 1, ⟨xb, { s with C := insG s.C i T }, d, pv, cv, pm', V, withF V.length C i T, mC pm' (withF V.length C i T) :: A⟩) ⟨rfl, rfl, rfl, rfl, rfl, trivial⟩
        ⟨by show 1 ≤ i + 1; omega, by show i + 1 ≤ m + 1; omega, hxb.trans hx0.symm, hdb, fun it h => .tail _ (hsub it h), ⟨hst2, ar_map ar xb _ d, hl1, hl2, hB⟩, hleft⟩
        (fun w' hw' => (ar_add (mapN_stable _ _ _ _) ar.stable (hw'.pick [8, 6, 2, 0, 3, 4, 5, 7] rfl rfl)).pick [1, 2, 3, 4, 5, 0, 6] rfl rfl) (by show m + 1 - (i + 1) < m + 1 - i; omega)
  · refine goA ?_
    refine x_ct ⟨xb, s, d, pv, cv, pm, V, C, A⟩ rfl rfl rfl ⟨hxb.trans hx0.symm, hdb, hsub, ⟨hst, ar, hl1, hl2, hB⟩, hleft⟩ ?_ (lw_stable log ⟨xb, s, d, pv, cv, pm, V, C, A⟩)
    exact List.sublist_append_left _ _
end Go.Proofs.YtplhamichcnmmaaGreatDoor

namespace Go.Proofs.YtplhamichcnmmaaGreatDoor
open Go.RowKit Go.Eng Go.Eng.Bm
set_option maxRecDepth 100000
set_option maxHeartbeats 40000000
theorem does5_calls (log : Nat) (x : Lw) (B : Nat) (ok : LwOk x log B) (N : Int) (c : UInt8) (keep : Bys) (w : World) (hw : ∀ it ∈ lwL log x, Here it w) (ha : (lwL log x).Pairwise Eng.Item.Apart) :
    Ct Tryz.prog 9 #[.pointer (some ⟨x.xb, 0, none⟩), .agg (actA 5 N c keep)] w (foots (lwL log x)) (fun _ : Lw => .bool true) (DoesP x log B) (fun y => lwL log y) := by
  refine cu_of [_, _] _ Tryz.func9 rfl rfl hw ha ?_
  simp only [argSlots, Nat.reduceAdd]
  refine goA ?_
  refine l_boxa rfl rfl fun b3 hb3 => ?_
  refine goA ?_
  refine l_perm (m' := lwL log x ++ [acC b3 5 N c keep]) (List.perm_append_comm (l₁ := [acC b3 5 N c keep])) ?_
  refine l_opg rfl (o_cu (pre := lwL log x) rfl (by kernel_rfl) rfl (lw_stable log x) (fun w1 hw1 hh1 ha1 => many_calls log x B ok 5 N c keep w1 hh1 ha1)) fun ⟨y, hy⟩ => ?_
  refine goA ?_
  exact x_ct y rfl rfl rfl hy (List.sublist_append_left _ _) (lw_stable log y)
theorem DoesP.more {x y : Lw} {log B B' : Nat} (h : DoesP x log B y) (hB : B ≤ B') (hB2 : B' ≤ 1000000000) : DoesP x log B' y :=
  ⟨h.xb, h.db, h.sub, ⟨h.ok.st.more hB, h.ok.ar, h.ok.l1, h.ok.l2, hB2⟩, h.left⟩
theorem does_calls' (log : Nat) (x : Lw) (B : Nat) (ok : LwOk x log B) (hB2 : B + 601 ≤ 1000000000) (k : Nat) (N : Int) (c : UInt8) (keep : Bys) (w : World) (hw : ∀ it ∈ lwL log x, Here it w) (ha : (lwL log x).Pairwise Eng.Item.Apart) :
    Ct Tryz.prog 9 #[.pointer (some ⟨x.xb, 0, none⟩), .agg (actA k N c keep)] w (foots (lwL log x)) (fun y : Bool × Lw => .bool y.1) (fun y => (y.1 = true ∧ DoesP x log (B + 601) y.2) ∨ (k = 3 ∧ DieP x log (B + 601) y.2)) (fun y => lwL log y.2) := by
  have up : (Ct Tryz.prog 9 #[.pointer (some ⟨x.xb, 0, none⟩), .agg (actA k N c keep)] w (foots (lwL log x)) (fun _ : Lw => .bool true) (DoesP x log B) (fun y => lwL log y)) →
      Ct Tryz.prog 9 #[.pointer (some ⟨x.xb, 0, none⟩), .agg (actA k N c keep)] w (foots (lwL log x)) (fun y : Bool × Lw => .bool y.1) (fun y => (y.1 = true ∧ DoesP x log (B + 601) y.2) ∨ (k = 3 ∧ DieP x log (B + 601) y.2)) (fun y => lwL log y.2) := fun h =>
    Ct.imp h fun y hy => ⟨(true, y), rfl, .inl ⟨rfl, hy.more (by omega) hB2⟩, rfl⟩
  rcases Nat.lt_or_ge k 8 with h8 | h8
  · match k, h8 with
    | 0, _ => exact up (does0_calls log x B ok N c keep w hw ha)
    | 1, _ => exact up (does1_calls log x B ok N c keep w hw ha)
    | 2, _ => exact up (does2_calls log x B ok N c keep w hw ha)
    | 3, _ => exact Ct.imp (does3_calls log x B ok hB2 N c keep w hw ha) fun y hy => ⟨y, rfl, hy.imp id (fun h => ⟨rfl, h⟩), rfl⟩
    | 4, _ => exact up (does4_calls log x B ok N c keep w hw ha)
    | 5, _ => exact up (does5_calls log x B ok N c keep w hw ha)
    | 6, _ => exact up (does67_calls log x B ok 6 (.inl rfl) N c keep w hw ha)
    | 7, _ => exact up (does67_calls log x B ok 7 (.inr rfl) N c keep w hw ha)
  · exact up (does8_calls log x B ok k h8 N c keep w hw ha)
end Go.Proofs.YtplhamichcnmmaaGreatDoor

namespace Go.Proofs.YtplhamichcnmmaaGreatDoor
open Go.RowKit Go.Eng Go.Eng.Bm
set_option maxRecDepth 100000
set_option maxHeartbeats 40000000
structure AcT where
  k : Nat
  N : Int
  c : UInt8
  keep : Bys
def AcT.vs (a : AcT) : List Value := [.int .u8 (a.k : Int), .int .i64 a.N, .int .u8 (a.c.toNat : Int), .string ⟨a.keep.toArray⟩]
theorem AcT.sz (a : AcT) : a.vs.length = 4 := rfl
def greatB (L : List AcT) : Bool := decide (60 < L.length) || L.any fun a => decide (100 < a.keep.length)
theorem great_no {L : List AcT} (h : greatB L = false) : L.length ≤ 60 ∧ ∀ a ∈ L, a.keep.length ≤ 100 := by
  unfold greatB at h
  rw [Bool.or_eq_false_iff, List.any_eq_false] at h
  exact ⟨by have := of_decide_eq_false h.1; omega, fun a ha => by have := h.2 a ha; simpa using this⟩
theorem great_calls (L : List AcT) (a : Option Addr) (c : Nat) (hln : L.length ≤ 9223372036854775807) (hz : ∀ x ∈ L, x.keep.length ≤ 9223372036854775807) (w : World) (hr : Rd w a (rowsV AcT.vs L)) : Pu Tryz.prog 6 #[.slice a L.length c] w (.bool (greatB L)) := by
  refine pu_of [_] Tryz.func6 rfl rfl ?_
  simp only [argSlots]
  refine goA ?_
  by_cases h60 : 60 < L.length
  · rw [show greatB L = true by rw [greatB, decide_eq_true h60]; rfl]
    refine goA ?_
    exact x_pu rfl rfl rfl
  · refine goA ?_
    refine t_for (α := Nat) (fun i => [(0, .slice a L.length c), (3, .int .i64 i)]) (fun i => i ≤ L.length ∧ ∀ j x, j < i → L[j]? = some x → x.keep.length ≤ 100) (fun _ => []) (fun i => L.length - i) 0 ⟨rfl, rfl, trivial⟩ ⟨Nat.zero_le _, fun j x hj => absurd hj (Nat.not_lt_zero _)⟩ (fun w' hw' => hw') fun i ⟨hi, hall⟩ => ?_
    by_cases hil : i < L.length
    · obtain ⟨b, off, rfl, hrow⟩ : ∃ b off, a = some ⟨b, off, none⟩ ∧ w.rangeAt b off (rowsV AcT.vs L) := hr.at_ (by intro h; have := congrArg List.length h; rw [rowsV_length AcT.sz] at this; simp at this; omega)
      have hri := Rd.row AcT.sz hrow hil
      have hx : L[i]? = some L[i] := List.getElem?_eq_getElem hil
      have hzi := hz _ (List.getElem_mem hil)
      generalize L[i] = x at hri hx hzi
      have hbl := bal x.keep
      refine goA ?_
      refine l_w rfl (v_load (v := .string ⟨x.keep.toArray⟩) rfl rfl (fun w' hw' => rangeAt_old hri (fun h => h) hw' 3 _ rfl)) ?_
      refine goA ?_
      by_cases h100 : 100 < x.keep.length
      · rw [show greatB L = true by rw [greatB, Bool.or_eq_true, List.any_eq_true]; exact .inr ⟨x, List.mem_of_getElem? hx, decide_eq_true h100⟩]
        refine goA ?_
        exact x_pu rfl rfl rfl
      · refine goA ?_
        exact x_round (i + 1) ⟨rfl, rfl, trivial⟩ ⟨hil, fun j y hj hy => by
          rcases Nat.lt_succ_iff_lt_or_eq.1 hj with h | rfl
          · exact hall j y h hy
          · rw [hx] at hy; cases hy; omega⟩ Hp.none (by show L.length - (i + 1) < L.length - i; omega)
    · obtain rfl : i = L.length := by omega
      rw [show greatB L = false by
        rw [greatB, Bool.or_eq_false_iff, List.any_eq_false]
        refine ⟨decide_eq_false h60, fun x hx => ?_⟩
        obtain ⟨j, hj, rfl⟩ := List.getElem_of_mem hx
        have := hall j _ hj (List.getElem?_eq_getElem hj)
        simpa using this]
      refine goA ?_
      exact x_pu rfl rfl rfl
end Go.Proofs.YtplhamichcnmmaaGreatDoor
