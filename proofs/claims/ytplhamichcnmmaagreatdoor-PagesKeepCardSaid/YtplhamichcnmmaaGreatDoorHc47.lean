/- law 8: PagesPlay. -/
/- law 8: again, and PagesKeep. -/
import Derived.Test.YtplhamichcnmmaaGreatDoorHc46
namespace Go.Proofs.YtplhamichcnmmaaGreatDoor
open Go.RowKit Go.Eng Go.Eng.Bm
set_option maxRecDepth 100000
set_option maxHeartbeats 40000000
theorem rd_keepF {w0 w : World} {F : Nat → Prop} {m : List Eng.Item} {a : Option Addr} {L : List AcT} (h : Rd w0 a (rowsV AcT.vs L)) (hF : ∀ b off, a = some ⟨b, off, none⟩ → L ≠ [] → ¬ F b) (hw : Hp w0 F m w) : Rd w a (rowsV AcT.vs L) := by
  by_cases hL : L = []
  · subst hL; exact .inl rfl
  rcases h with h | ⟨b, off, rfl, hr⟩
  · exact .inl h
  · exact .inr ⟨b, off, rfl, rangeAt_old hr (hF b off rfl hL) hw⟩
theorem act_row {w : World} {L : List AcT} {a : Option Addr} (h : Rd w a (rowsV AcT.vs L)) {i : Nat} (hi : i < L.length) : ∃ b off, a = some ⟨b, off, none⟩ ∧ w.rangeAt b (off + i * 4) (L[i]'hi).vs := by
  obtain ⟨b, off, rfl, hrow⟩ := h.at_ (by intro h; have := congrArg List.length h; rw [rowsV_length AcT.sz] at this; simp at this; omega)
  exact ⟨b, off, rfl, Rd.row AcT.sz hrow hi⟩
end Go.Proofs.YtplhamichcnmmaaGreatDoor

namespace Go.Eng
open Go.RowKit
theorem l_shareA {P : Program} {Q : Exit → Act → World → Prop} {N : Fm} {w0 : World} {F : Nat → Prop} {ops : Array Oper} {rest : List Oper} {G : Prop} {α : Type} (L : α → Slots) (φ : α → Prop) (M : α → List Item)
    (k : ∀ x, φ x → HL P ops Q N rest (L x) (Hp w0 F (M x))) (h : (∀ x l', φ x → Has l' (L x) → HL P ops Q N rest l' (Hp w0 F (M x))) → G) : G :=
  h fun x l' hx hl => by
    have k := k x hx
    unfold HL at k ⊢
    exact fun a w s hw => k a w ⟨s.size, s.defers, fun t v hv => s.slot t v (get_has hl hv)⟩ hw
end Go.Eng
namespace Go.Proofs.YtplhamichcnmmaaGreatDoor
open Go.RowKit Go.Eng Go.Eng.Bm
set_option maxRecDepth 100000
set_option maxHeartbeats 40000000
structure My where
  pv : Nat
  cv : Nat
  pm : Nat
  V : List Bys
def My.vs (m : My) : List Value := [.slice (some ⟨m.pv, 0, none⟩) m.V.length m.cv, .map (some m.pm)]
theorem My.sz (m : My) : m.vs.length = 2 := rfl
def myI (o : Nat × Nat) (M : List My) : Eng.Item := own 39 2 (some o) M.length (rowsV My.vs M)
theorem eq_of_same {V : List Bys} {C : PR} {x : Lw} (hV : V.length = 128) (hW : x.V.length = 128) (hC : x.C = []) (h0 : C = []) (h : same V C x 128) : V = x.V := by
  apply List.ext_getElem (by omega)
  intro i h1 h2
  have := h i (by omega)
  rw [hC, h0] at this
  have e : ∀ (U : List Bys) (k : Nat) (hk : k < U.length), viewF U [] k = U[k] := fun U k hk => by
    show U.getD k [] = _
    rw [List.getD_eq_getElem?_getD, List.getElem?_eq_getElem hk]; rfl
  rwa [e V i h1, e x.V i h2] at this
theorem StX.to {s : Pg} {D : Dsk} {n secs : Nat} {note : Bys} {V V' : List Bys} {C C' : PR} {B : Nat} (h : StX s D n secs note V C B) (e : V = V') (e' : C = C') : StX s D n secs note V' C' B := by subst e; subst e'; exact h
structure AgnP (x : Lw) (log B : Nat) (y : Lw) : Prop where
  xb : y.xb = x.xb
  db : y.d.b = x.d.b
  sub : ∀ it ∈ x.A, it ∈ y.A
  ok : LwOk y log B
structure OffP (x : Lw) (log B : Nat) (V : List Bys) (y : Lw) : Prop where
  xb : y.xb = x.xb
  db : y.d.b = x.d.b
  A : y.A = x.A
  off : Off y.d.D 128 log noteB V B
def offL (log : Nat) (y : Lw) : List Eng.Item := [lwC log y, dkI y.d, ctI, tzI, arI y.A]
theorem off_stable (log : Nat) (x : Lw) : ∀ it ∈ offL log x, it.Stable none' := by
  intro it hm
  rcases hm with _ | ⟨_, _ | ⟨_, _ | ⟨_, _ | ⟨_, _ | ⟨_, hm⟩⟩⟩⟩⟩
  · exact pt_stable _ _ _
  · exact bundle_stable _
  · exact ctI_stable _
  · exact tzI_stable _
  · exact bundle_stable _
  · cases hm
theorem dk1_stable (d : Dk) : ∀ it ∈ [dkI d], it.Stable none' := by
  intro it hm
  rcases hm with _ | ⟨_, hm⟩
  · exact bundle_stable _
  · cases hm
theorem tm_30 (N : Int) : ∃ m : Nat, m < 30 ∧ (N.tmod 30 + 30).tmod 30 = m ∧ -30 < N.tmod 30 ∧ N.tmod 30 < 30 := by
  have h1 : -30 < N.tmod 30 ∧ N.tmod 30 < 30 := by
    constructor
    · have : (N.tmod 30).natAbs = N.natAbs % 30 := Int.natAbs_tmod N 30
      have := Nat.mod_lt N.natAbs (show 0 < 30 by decide)
      omega
    · exact Int.tmod_lt_of_pos N (by decide)
  refine ⟨((N.tmod 30 + 30).tmod 30).toNat, ?_, ?_, h1⟩
  · have := Int.tmod_lt_of_pos (N.tmod 30 + 30) (b := 30) (by decide)
    have := Int.tmod_nonneg (a := N.tmod 30 + 30) 30 (by omega)
    omega
  · have := Int.tmod_nonneg (a := N.tmod 30 + 30) 30 (by omega)
    omega
theorem again_calls (log : Nat) (x : Lw) (l1 : 96 ≤ log) (l2 : log ≤ 150) (M : List My) (o : Nat × Nat) (hM0 : M.length ≤ 2) (V : List Bys) (hMV : ∃ m ∈ M, m.V = V) (hM : ∀ m ∈ M, rsI m.pv m.V ∈ x.A ∧ mC m.pm [] ∈ x.A ∧ m.V.length = 128) (hst0 : ∀ it ∈ x.A, it.Stable none') (B : Nat) (hB : B + 4 ≤ 1000000000) (hoff : Off x.d.D 128 log noteB V B)
    (hbm : ∃ S, BmIs 128 (V.getD 0 []) S) (k : Nat) (N : Int) (c : UInt8) (keep : Bys) (hkeep : keep.length ≤ 100) (w : World) (hw : ∀ it ∈ offL log x ++ [myI o M], Here it w) (ha : (offL log x ++ [myI o M]).Pairwise Eng.Item.Apart) :
    Ct Tryz.prog 31 #[.pointer (some ⟨x.xb, 0, none⟩), .agg (actA k N c keep), .slice (some ⟨o.1, 0, none⟩) M.length o.2] w (foots (offL log x ++ [myI o M])) (fun _ : Lw => .bool true) (AgnP x log (B + 4)) (fun y => lwL log y) := by
  refine cu_of [_, _, _] _ Tryz.func31 rfl rfl hw ha ?_
  obtain ⟨m30, hm30, hmm, htm⟩ := tm_30 N
  simp only [argSlots, Nat.reduceAdd]
  refine goA ?_
  refine l_boxa rfl rfl fun b4 hb4 => ?_
  refine goA ?_
  refine t_for (α := Nat × Lw) (fun y => [(0, .pointer (some ⟨x.xb, 0, none⟩)), (2, .slice (some ⟨o.1, 0, none⟩) M.length o.2), (4, .pointer (some ⟨b4, 0, none⟩)), (7, .int .i64 y.1)]) (fun y => y.1 ≤ 3 ∧ OffP x log (B + y.1) V y.2) (fun y => offL log y.2 ++ [myI o M, acC b4 k N c keep]) (fun y => 4 - y.1) (0, x) ⟨rfl, rfl, rfl, rfl, trivial⟩ ⟨Nat.zero_le _, rfl, rfl, rfl, hoff⟩ (fun w' hw' => hw'.pick [1, 2, 3, 4, 5, 6, 0] rfl rfl) fun ⟨i, y⟩ ⟨hi, hy⟩ => ?_
  dsimp only at hi hy ⊢
  obtain ⟨hxb, hdb, hA, ho⟩ := hy
  obtain ⟨hr0, hz0, hrec⟩ := ho.start
  have hl0 : y.d.D.left = none := ho.left
  have hkeep0 : y.d.D.keep = [] := ho.keep
  rw [← hxb]
  generalize hx0 : x.xb = x0 at hxb
  obtain ⟨xb, s, d, pv, cv, pm, Vy, C, A⟩ := y
  dsimp only at hxb hdb hA ho hr0 hz0 hrec hl0 hkeep0 ⊢
  unfold offL lwC
  dsimp only
  simp only [List.cons_append, List.nil_append]
  refine goA ?_
  refine l_perm (bring1 _ _ _) ?_
  refine l_opg rfl (o_cu (pre := [dkI d]) rfl (by kernel_rfl) rfl (dk1_stable d) (fun w1 hw1 hh1 ha1 => start_calls d w1 hh1)) fun ⟨_, _⟩ => ?_
  simp only [List.cons_append, List.nil_append]
  obtain ⟨d1, hd1⟩ : ∃ d1 : Dk, d1 = { d with D := { d.D with dead := false } } := ⟨_, rfl⟩
  have hD1 : d1.D = { d.D with dead := false } := by rw [hd1]
  have hb1 : d1.b = d.b := by rw [hd1]
  rw [← hd1, ← hb1]
  rw [← hD1] at hr0 hz0 hrec
  have hl1 : d1.D.left = none := by rw [hD1]; exact hl0
  have hk1 : d1.D.keep = [] := by rw [hD1]; exact hkeep0
  rw [← hb1] at hdb
  clear hd1 hD1 hl0 hkeep0 ho
  refine l_shareA (P := Tryz.prog) (ops := ?o1) (Q := ?q1) (N := ?n1) (rest := ?r1) (w0 := w) (F := foots (offL log x ++ [myI o M])) (α := Dk)
    (fun d2 => [(0, .pointer (some ⟨xb, 0, none⟩)), (2, .slice (some ⟨o.1, 0, none⟩) M.length o.2), (4, .pointer (some ⟨b4, 0, none⟩)), (7, .int .i64 (i : Int)), (49, .pointer (some ⟨d2.b, 0, none⟩))])
    (fun d2 => d2.b = d1.b ∧ d2.D.Rest ∧ Siz d2.D 128 log noteB V ∧ (∃ h c TS, RecI d2.D 128 log noteB V (B + i) h c TS) ∧ d2.D.keep.length ≤ 1000000 ∧ (i = 3 → d2.D.left = none))
    (fun d2 => [dkI d2, pt xb (.cells (lwA log d2.b s.b pv Vy.length cv pm) 41 (0, 0)), ctI, tzI, arI A, myI o M, acC b4 k N c keep]) ?k1 (fun hshare => ?h1)
  case h1 =>
    by_cases hi3 : i < 3
    · have hcl : c.toNat / 2 ^ i < 256 := Nat.lt_of_le_of_lt (Nat.div_le_self _ _) c.toNat_lt
      refine goA ?_
      by_cases hbit : ((c.toNat / 2 ^ i &&& 1 : Nat) : Int) = 1
      · refine goA ?_
        refine t_pick [1, 6, 0, 2, 3, 4, 5] rfl rfl ?_
        refine t_pick [2, 0, 1, 3, 4, 5, 6] rfl rfl ?_
        refine t_drawm [1, 2, 3, 4, 5, 6] 15 rfl rfl (by kernel_rfl) ?_
        (repeat first | (apply d_w [6] rfl rfl rfl (by kernel_rfl) (fun _ h => by first | exact h | exact Hp.sub h (.cons _ (.refl _)) | exact Hp.sub h (.cons _ (.cons _ (.refl _))) | exact Hp.sub h (.cons _ (.cons _ (.cons _ (.refl _)))) | exact Hp.sub h (.cons _ (.cons _ (.cons _ (.cons _ (.refl _))))) | exact Hp.sub h (.cons _ (.cons _ (.cons _ (.cons _ (.cons _ (.refl _)))))) | exact Hp.sub h (.cons _ (.cons _ (.cons _ (.cons _ (.cons _ (.cons _ (.refl _))))))) | exact Hp.sub h (.cons_cons _ (.cons_cons _ (List.nil_sublist _))) | exact Hp.sub h (.cons _ (.cons_cons _ (.cons_cons _ (List.nil_sublist _))))); focus (first | exact v_move rfl | exact v_assign rfl | exact v_bt rfl rfl | exact v_extract rfl rfl | exact v_field0 rfl rfl | exact v_field rfl rfl | exact v_lens rfl rfl | exact v_lenstr rfl rfl | exact v_nt rfl | exact v_load1p rfl rfl (by repeat first | exact .head _ | apply List.Mem.tail) | exact v_loadn rfl rfl (by repeat first | exact .head _ | apply List.Mem.tail) rfl | exact v_loadp rfl rfl (by repeat first | exact .head _ | apply List.Mem.tail) rfl | exact v_loada rfl rfl (by repeat first | exact .head _ | apply List.Mem.tail) | exact v_eqb rfl rfl rfl | exact v_slA rfl rfl rfl | exact v_builds rfl rfl rfl rfl rfl | exact v_eqs rfl rfl | exact v_nc rfl | exact v_caps rfl rfl | exact v_eqpn rfl rfl rfl | exact v_nepn rfl rfl rfl | exact v_neps rfl rfl rfl rfl | ((first | refine v_bn rfl rfl ?_ | refine v_is1 rfl rfl rfl ?_ | refine v_ia1 rfl rfl rfl ?_ | refine v_sa rfl rfl rfl ?_ | refine v_sF rfl rfl rfl ?_ | refine v_sT rfl rfl rfl ?_ | refine v_sFT rfl rfl rfl rfl ?_ | refine v_lF rfl rfl rfl rfl ?_ | refine v_is rfl rfl rfl ?_ | refine v_ia rfl rfl rfl ?_ | refine v_lT rfl rfl rfl rfl ?_ | refine v_cv rfl rfl rfl ?_ | refine v_slLH rfl rfl rfl rfl rfl ?_ | refine v_sl3 rfl rfl rfl rfl rfl ?_); first | omega | assumption) | exact v_pT rfl rfl (by first | omega | assumption | (simp; done) | exact fun h => h (by assumption) | fail) | exact v_pF rfl rfl (by first | omega | assumption | (simp; done) | exact fun h => h (by assumption) | fail) | exact v_pickB rfl rfl rfl)) | refine d_no [6] rfl rfl rfl (by kernel_rfl) (fun _ h => by first | exact h | exact Hp.sub h (.cons _ (.refl _)) | exact Hp.sub h (.cons _ (.cons _ (.refl _))) | exact Hp.sub h (.cons _ (.cons _ (.cons _ (.refl _)))) | exact Hp.sub h (.cons _ (.cons _ (.cons _ (.cons _ (.refl _))))) | exact Hp.sub h (.cons _ (.cons _ (.cons _ (.cons _ (.cons _ (.refl _)))))) | exact Hp.sub h (.cons _ (.cons _ (.cons _ (.cons _ (.cons _ (.cons _ (.refl _))))))) | exact Hp.sub h (.cons_cons _ (.cons_cons _ (List.nil_sublist _))) | exact Hp.sub h (.cons _ (.cons_cons _ (.cons_cons _ (List.nil_sublist _))))) ?_ | refine d_T [6] rfl rfl rfl rfl (by first | omega | assumption | (simp; done) | exact fun h => h (by assumption) | fail) ?_ | refine d_F [6] rfl rfl rfl rfl (by first | omega | assumption | (simp; done) | exact fun h => h (by assumption) | fail) ?_)
        refine d_v [] rfl rfl (by kernel_rfl) (fun _ h => by first | exact h | exact Hp.sub h (.cons _ (.refl _)) | exact Hp.sub h (.cons _ (.cons _ (.refl _))) | exact Hp.sub h (.cons _ (.cons _ (.cons _ (.refl _)))) | exact Hp.sub h (.cons _ (.cons _ (.cons _ (.cons _ (.refl _))))) | exact Hp.sub h (.cons _ (.cons _ (.cons _ (.cons _ (.cons _ (.refl _)))))) | exact Hp.sub h (.cons _ (.cons _ (.cons _ (.cons _ (.cons _ (.cons _ (.refl _))))))) | exact Hp.sub h (.cons_cons _ (.cons_cons _ (List.nil_sublist _))) | exact Hp.sub h (.cons _ (.cons_cons _ (.cons_cons _ (List.nil_sublist _))))) rfl rfl (v_remZ (a := N) (b := 30) rfl rfl (by decide)) ?_
        refine d_v [] rfl rfl (by kernel_rfl) (fun _ h => by first | exact h | exact Hp.sub h (.cons _ (.refl _)) | exact Hp.sub h (.cons _ (.cons _ (.refl _))) | exact Hp.sub h (.cons _ (.cons _ (.cons _ (.refl _)))) | exact Hp.sub h (.cons _ (.cons _ (.cons _ (.cons _ (.refl _))))) | exact Hp.sub h (.cons _ (.cons _ (.cons _ (.cons _ (.cons _ (.refl _)))))) | exact Hp.sub h (.cons _ (.cons _ (.cons _ (.cons _ (.cons _ (.cons _ (.refl _))))))) | exact Hp.sub h (.cons_cons _ (.cons_cons _ (List.nil_sublist _))) | exact Hp.sub h (.cons _ (.cons_cons _ (.cons_cons _ (List.nil_sublist _))))) rfl rfl (v_addI (a := N.tmod 30) (b := 30) rfl rfl ⟨by omega, by omega⟩) ?_
        refine d_v [] rfl rfl (by kernel_rfl) (fun _ h => by first | exact h | exact Hp.sub h (.cons _ (.refl _)) | exact Hp.sub h (.cons _ (.cons _ (.refl _))) | exact Hp.sub h (.cons _ (.cons _ (.cons _ (.refl _)))) | exact Hp.sub h (.cons _ (.cons _ (.cons _ (.cons _ (.refl _))))) | exact Hp.sub h (.cons _ (.cons _ (.cons _ (.cons _ (.cons _ (.refl _)))))) | exact Hp.sub h (.cons _ (.cons _ (.cons _ (.cons _ (.cons _ (.cons _ (.refl _))))))) | exact Hp.sub h (.cons_cons _ (.cons_cons _ (List.nil_sublist _))) | exact Hp.sub h (.cons _ (.cons_cons _ (.cons_cons _ (List.nil_sublist _))))) rfl rfl (v_remZ (a := N.tmod 30 + 30) (b := 30) rfl rfl (by decide)) ?_
        rw [show (((30 : Nat) : Int)) = 30 from rfl, hmm]
        have hle : m30 * (i + 1) ≤ 30 * 4 := Nat.mul_le_mul (by omega) (by omega)
        (repeat first | (apply d_w [14] rfl rfl rfl (by kernel_rfl) (fun _ h => by first | exact h | exact Hp.sub h (.cons _ (.refl _)) | exact Hp.sub h (.cons _ (.cons _ (.refl _))) | exact Hp.sub h (.cons _ (.cons _ (.cons _ (.refl _)))) | exact Hp.sub h (.cons _ (.cons _ (.cons _ (.cons _ (.refl _))))) | exact Hp.sub h (.cons _ (.cons _ (.cons _ (.cons _ (.cons _ (.refl _)))))) | exact Hp.sub h (.cons _ (.cons _ (.cons _ (.cons _ (.cons _ (.cons _ (.refl _))))))) | exact Hp.sub h (.cons_cons _ (.cons_cons _ (List.nil_sublist _))) | exact Hp.sub h (.cons _ (.cons_cons _ (.cons_cons _ (List.nil_sublist _))))); focus (first | exact v_move rfl | exact v_assign rfl | exact v_bt rfl rfl | exact v_extract rfl rfl | exact v_field0 rfl rfl | exact v_field rfl rfl | exact v_lens rfl rfl | exact v_lenstr rfl rfl | exact v_nt rfl | exact v_load1p rfl rfl (by repeat first | exact .head _ | apply List.Mem.tail) | exact v_loadn rfl rfl (by repeat first | exact .head _ | apply List.Mem.tail) rfl | exact v_loadp rfl rfl (by repeat first | exact .head _ | apply List.Mem.tail) rfl | exact v_loada rfl rfl (by repeat first | exact .head _ | apply List.Mem.tail) | exact v_eqb rfl rfl rfl | exact v_slA rfl rfl rfl | exact v_builds rfl rfl rfl rfl rfl | exact v_eqs rfl rfl | exact v_nc rfl | exact v_caps rfl rfl | exact v_eqpn rfl rfl rfl | exact v_nepn rfl rfl rfl | exact v_neps rfl rfl rfl rfl | ((first | refine v_bn rfl rfl ?_ | refine v_is1 rfl rfl rfl ?_ | refine v_ia1 rfl rfl rfl ?_ | refine v_sa rfl rfl rfl ?_ | refine v_sF rfl rfl rfl ?_ | refine v_sT rfl rfl rfl ?_ | refine v_sFT rfl rfl rfl rfl ?_ | refine v_lF rfl rfl rfl rfl ?_ | refine v_is rfl rfl rfl ?_ | refine v_ia rfl rfl rfl ?_ | refine v_lT rfl rfl rfl rfl ?_ | refine v_cv rfl rfl rfl ?_ | refine v_slLH rfl rfl rfl rfl rfl ?_ | refine v_sl3 rfl rfl rfl rfl rfl ?_); first | omega | assumption) | exact v_pT rfl rfl (by first | omega | assumption | (simp; done) | exact fun h => h (by assumption) | fail) | exact v_pF rfl rfl (by first | omega | assumption | (simp; done) | exact fun h => h (by assumption) | fail) | exact v_pickB rfl rfl rfl)) | refine d_no [14] rfl rfl rfl (by kernel_rfl) (fun _ h => by first | exact h | exact Hp.sub h (.cons _ (.refl _)) | exact Hp.sub h (.cons _ (.cons _ (.refl _))) | exact Hp.sub h (.cons _ (.cons _ (.cons _ (.refl _)))) | exact Hp.sub h (.cons _ (.cons _ (.cons _ (.cons _ (.refl _))))) | exact Hp.sub h (.cons _ (.cons _ (.cons _ (.cons _ (.cons _ (.refl _)))))) | exact Hp.sub h (.cons _ (.cons _ (.cons _ (.cons _ (.cons _ (.cons _ (.refl _))))))) | exact Hp.sub h (.cons_cons _ (.cons_cons _ (List.nil_sublist _))) | exact Hp.sub h (.cons _ (.cons_cons _ (.cons_cons _ (List.nil_sublist _))))) ?_ | refine d_T [14] rfl rfl rfl rfl (by first | omega | assumption | (simp; done) | exact fun h => h (by assumption) | fail) ?_ | refine d_F [14] rfl rfl rfl rfl (by first | omega | assumption | (simp; done) | exact fun h => h (by assumption) | fail) ?_)
        refine d_opg 14 ⟨by kernel_rfl, by decide⟩ rfl rfl (o_cu (pre := [dkI d1]) rfl (by kernel_rfl) rfl (dk1_stable d1) (fun w1 hw1 hh1 ha1 => fuse_calls d1 (m30 * (i + 1)) (by omega) keep w1 hh1)) (fun _ _ h => goH h) fun ⟨_, _⟩ => ?_
        simp only [List.cons_append, List.nil_append]
        refine goE ?_
        refine d_end (by kernel_rfl) ?_
        obtain ⟨hd, c', TS, R⟩ := hrec
        obtain ⟨f1, f2, f3⟩ := rec_fuse hr0 hz0 R (m := m30 * (i + 1)) (by omega) keep
        refine goA ?_
        refine l_pick [0, 1, 3, 4, 5, 6, 2] rfl rfl ?_
        refine hshare { d1 with D := fuseF d1.D (m30 * (i + 1)) keep } _ ⟨rfl, f1, f2, ⟨_, _, _, f3⟩, by show keep.length ≤ _; omega, fun h => by omega⟩ ?_; exact ⟨rfl, rfl, rfl, rfl, rfl, trivial⟩
      · refine goA ?_
        refine hshare d1 _ ⟨rfl, hr0, hz0, hrec, by rw [hk1]; decide, fun _ => hl1⟩ ?_; exact ⟨rfl, rfl, rfl, rfl, rfl, trivial⟩
    · refine goA ?_
      refine hshare d1 _ ⟨rfl, hr0, hz0, hrec, by rw [hk1]; decide, fun _ => hl1⟩ ?_; exact ⟨rfl, rfl, rfl, rfl, rfl, trivial⟩
  case k1 =>
    rintro d2 ⟨hb2, hr2, hz2, hrec2, hk2, hl2⟩
    refine l_pick [0, 2, 1, 3, 4, 5, 6] rfl rfl ?_
    refine l_opg rfl (o_cu (pre := [dkI d2, ctI]) rfl (by kernel_rfl) rfl (dc_stable d2) (fun w1 hw1 hh1 ha1 => popen_calls d2 128 log noteB V (B + i) hk2 hr2 hz2 (by omega) hrec2 hbm w1 hh1 ha1)) fun ⟨⟨d3, so⟩, hd3⟩ => ?_
    obtain ⟨r1, r2⟩ := hd3
    cases so with
    | none =>
      have hi3 : i < 3 := by
        rcases Nat.lt_or_ge i 3 with h | h
        · exact h
        · exact absurd (hl2 (by omega)) r2.1
      rw [show oqV (d3, none) = .tuple #[.pointer none, .int .i64 ((4 : Nat) : Int)] from rfl]
      simp only [oqI, List.cons_append, List.nil_append]
      refine goA ?_
      rw [← r1]
      exact x_round (i + 1, ⟨xb, s, d3, pv, cv, pm, Vy, C, A⟩) ⟨rfl, rfl, rfl, rfl, trivial⟩ ⟨hi3, hxb.trans hx0.symm, (r1.trans hb2).trans hdb, hA, r2.2⟩ (fun w' hw' => hw'.pick [2, 0, 1, 3, 4, 5, 6] rfl rfl) (by show 4 - (i + 1) < 4 - i; omega)
    | some s3 =>
      obtain ⟨r2, hst3⟩ := r2
      rw [show oqV (d3, some s3) = .tuple #[.pointer (some ⟨s3.b, 0, none⟩), .int .i64 ((0 : Nat) : Int)] from rfl]
      simp only [oqI, List.cons_append, List.nil_append]
      refine goA ?_
      refine l_op rfl (ho_perm (bring3 _ _ _ _ _) (o_store1 rfl rfl rfl rfl rfl rfl (by simp))) fun _ => ?_
      rw [show (lwA log d2.b s.b pv Vy.length cv pm).setIfInBounds 1 (.pointer (some ⟨s3.b, 0, none⟩)) = lwA log d2.b s3.b pv Vy.length cv pm from rfl, ← r1]
      refine goA ?_
      refine t_for (α := Nat × Lw) (fun z => [(0, .pointer (some ⟨xb, 0, none⟩)), (2, .slice (some ⟨o.1, 0, none⟩) M.length o.2), (4, .pointer (some ⟨b4, 0, none⟩)), (7, .int .i64 (i : Int)), (10, .int .i64 z.1)]) (fun z => z.1 ≤ M.length ∧ (∀ q m, q < z.1 → M[q]? = some m → m.V ≠ V) ∧ z.2.xb = xb ∧ z.2.d = d3 ∧ z.2.A = A ∧ StX z.2.s d3.D 128 log noteB V [] (B + i + 1)) (fun z => lwL log z.2 ++ [myI o M, acC b4 k N c keep]) (fun z => M.length - z.1) (0, ⟨xb, s3, d3, pv, cv, pm, Vy, C, A⟩) ⟨rfl, rfl, rfl, rfl, rfl, trivial⟩ ⟨Nat.zero_le _, fun q m hq => absurd hq (Nat.not_lt_zero _), rfl, rfl, rfl, hst3⟩ (fun w' hw' => hw'.pick [0, 1, 2, 3, 4, 5, 6, 7] rfl rfl) fun ⟨j, z⟩ ⟨hj, hno, hzb, hzd, hzA, hst⟩ => ?_
      dsimp only at hj hno hzb hzd hzA hst ⊢
      obtain ⟨zb, s4, d4, pv4, cv4, pm4, V4, C4, A4⟩ := z
      dsimp only at hzb hzd hzA hst ⊢
      subst hzb hzd hzA
      unfold lwL lwC
      dsimp only
      simp only [List.cons_append, List.nil_append]
      by_cases hjl : j < M.length
      · have hmj : M[j]? = some M[j] := List.getElem?_eq_getElem hjl
        obtain ⟨ha1, ha2, ha3⟩ := hM M[j] (List.getElem_mem hjl)
        have hrow : ∀ {w0 w' : World} {F : Nat → Prop} {m : List Eng.Item}, Hp w0 F m w' → myI o M ∈ m → w'.rangeAt o.1 (0 + j * 2) (M[j]).vs := fun hw' hm => Rd.row My.sz (rangeAt_own (hw'.item _ hm).1) hjl
        generalize M[j] = my at hmj ha1 ha2 ha3 hrow
        rw [← hA] at ha1 ha2
        refine goA ?_
        refine l_w rfl (v_loadcE (xs := my.vs) (c := #[.slice (some ⟨my.pv, 0, none⟩) my.V.length my.cv, .map (some my.pm)]) rfl rfl (fun w' hw' => hrow hw' (by repeat first | exact .head _ | apply List.Mem.tail)) rfl) ?_
        refine goA ?_
        refine l_op rfl (o_storerE (V := [.slice (some ⟨my.pv, 0, none⟩) my.V.length my.cv, .map (some my.pm)]) rfl rfl rfl rfl rfl rfl (show (2 + 2 : Nat) ≤ 5 from by decide)) fun _ => ?_
        have har : Ar ⟨zb, s4, d4, my.pv, my.cv, my.pm, my.V, [], A4⟩ := ⟨fun it hm => by rw [hA] at hm; exact hst0 it hm, ha1, ha2⟩
        refine l_imp (m' := lwL log ⟨zb, s4, d4, my.pv, my.cv, my.pm, my.V, [], A4⟩ ++ [myI o M, acC b4 k N c keep]) (fun w' hw' => hw'.pick [0, 1, 2, 3, 4, 5, 6, 7] rfl rfl) ?_
        refine goA ?_
        refine l_opg rfl (o_cu (pre := lwL log ⟨zb, s4, d4, my.pv, my.cv, my.pm, my.V, [], A4⟩) rfl (by kernel_rfl) rfl (lw_stable log _) (fun w1 hw1 hh1 ha1 => same_calls log ⟨zb, s4, d4, my.pv, my.cv, my.pm, my.V, [], A4⟩ V [] (B + i + 1) hst har ha3 hst.many w1 hh1 ha1)) fun ⟨⟨e, s5⟩, hs5⟩ => ?_
        obtain ⟨ht5, hst5, hC5, hb5⟩ := hs5
        dsimp only at ht5 hst5 hC5 hb5 ⊢
        have hVl : V.length = 128 := hst.len
        cases e with
        | true =>
          have hVV : V = my.V := eq_of_same (x := ⟨zb, s4, d4, my.pv, my.cv, my.pm, my.V, [], A4⟩) hVl ha3 rfl rfl (ht5.1 rfl)
          refine goA ?_
          refine x_ct ⟨zb, s5, d4, my.pv, my.cv, my.pm, my.V, [], A4⟩ rfl rfl rfl ⟨hxb.trans hx0.symm, (r1.trans hb2).trans hdb, fun it h => by show it ∈ A4; rw [hA]; exact h, ⟨(hst5.to hVV rfl).more (by show B + i + 1 ≤ B + 4; omega), ⟨har.stable, har.rows, har.map⟩, l1, l2, by omega⟩⟩ ?_ (lw_stable log _)
          exact List.sublist_append_left _ _
        | false =>
          have hne : my.V ≠ V := fun h => by
            have := ht5.2 (fun q _ => by show viewF V [] q = viewF my.V [] q; rw [h])
            cases this
          unfold lwL lwC
          simp only [List.cons_append, List.nil_append]
          refine goA ?_
          refine l_opg rfl (o_pure rfl (by kernel_rfl) rfl (fun w1 hw1 => alive_calls d4 w1 (Here.of (hw1.item (dkI d4) (by repeat first | exact .head _ | apply List.Mem.tail)) (bundle_stable _)))) fun _ => ?_
          rw [hst.rest.live]
          refine goA ?_
          exact x_round (j + 1, ⟨zb, s5, d4, my.pv, my.cv, my.pm, my.V, [], A4⟩) ⟨rfl, rfl, rfl, rfl, rfl, trivial⟩ ⟨hjl, fun q m hq hm => by
            rcases Nat.lt_succ_iff_lt_or_eq.1 hq with h | rfl
            · exact hno q m h hm
            · rw [hmj] at hm; cases hm; exact hne, rfl, rfl, rfl, hst5⟩ (fun w' hw' => hw'.pick [0, 1, 2, 3, 4, 5, 6, 7] rfl rfl) (by show M.length - (j + 1) < M.length - j; omega)
      · obtain rfl : j = M.length := by omega
        obtain ⟨m, hm, hmV⟩ := hMV
        obtain ⟨q, hq, rfl⟩ := List.getElem_of_mem hm
        exact absurd hmV (hno q _ hq (List.getElem?_eq_getElem hq))
end Go.Proofs.YtplhamichcnmmaaGreatDoor
