/- law 8: Does, a Put. -/
/- law 8: Does: Abort, nothing, Alloc. -/
import Derived.Test.YtplhamichcnmmaaGreatDoorHc40
namespace Go.Eng
open Go.RowKit
theorem get_has {l : Slots} : ∀ {L : Slots}, Has l L → ∀ {t : Nat} {v : Value}, get L t = some v → get l t = some v
  | [], _, _, _, h => by cases h
  | (k, u) :: r, hl, t, v, h => by
    rw [get_cons] at h
    split at h
    · rename_i hk
      cases h
      rw [← hk]; exact hl.1
    · exact get_has hl.2 h
theorem d_share {P : Program} {ops : Array Oper} {Q : Exit → Act → World → Prop} {S : World → Prop} {t n n' : Nat} {N : Fm} {listed listed' : Array Bool} {l : Slots} {w0 : World} {F : Nat → Prop} {m : List Item} {α : Type} (L : α → Slots) (M : α → List Item)
    (k : ∀ x, HD P ops Q S t N n' listed' (L x) (Hp w0 F (M x))) (h : (∀ x l', Has l' (L x) → HD P ops Q S t N n' listed' l' (Hp w0 F (M x))) → HD P ops Q S t N n listed l (Hp w0 F m)) : HD P ops Q S t N n listed l (Hp w0 F m) :=
  h fun x l' hl => by
    have hk := k x
    unfold HD at hk ⊢
    exact fun inv a w s hw => hk inv a w ⟨s.size, s.defers, fun t' v hv => s.slot t' v (get_has hl hv)⟩ hw
end Go.Eng
namespace Go.Proofs.YtplhamichcnmmaaGreatDoor
open Go.RowKit Go.Eng Go.Eng.Bm
set_option maxRecDepth 100000
set_option maxHeartbeats 40000000
abbrev actA (k : Nat) (N : Int) (c : UInt8) (keep : Bys) : Array Value := #[.int .u8 (k : Int), .int .i64 N, .int .u8 (c.toNat : Int), .string ⟨keep.toArray⟩]
abbrev acC (b k : Nat) (N : Int) (c : UInt8) (keep : Bys) : Eng.Item := pt b (.cells (actA k N c keep) 30 (0, 0))
structure DoesP (x : Lw) (log B : Nat) (y : Lw) : Prop where
  xb : y.xb = x.xb
  db : y.d.b = x.d.b
  sub : ∀ it ∈ x.A, it ∈ y.A
  ok : LwOk y log B
  left : x.d.D.left = none → y.d.D.left = none
theorem rd_apart {w0 w : World} {F : Nat → Prop} {m : List Eng.Item} {s : Pg} {d : Dk} {b : Nat} {bs : Bys} (h : Hp w0 F (pgI s d :: rdI b bs :: m) w) : ∀ b' off, some (⟨b, 0, none⟩ : Addr) = some ⟨b', off, none⟩ → ¬ foots [pgI s d] b' := fun b' off he ⟨it, hm, hk⟩ => by
  cases he
  rw [List.mem_singleton] at hm
  subst hm
  exact (List.pairwise_cons.1 h.apart).1 (rdI b bs) (.head _) b hk rfl
theorem v_lw {l : Slots} {w0 : World} {F : Nat → Prop} {m : List Eng.Item} {x : Operand} {ty : TypeId} {xb log db sb pv n cv pm : Nat} (hx : evO l x = some (.pointer (some ⟨xb, 2, none⟩))) (hm : pt xb (.cells (lwA log db sb pv n cv pm) 41 (0, 0)) ∈ m) :
    OV Tryz.prog (.load 39 x) ty l (Hp w0 F m) (.agg #[.slice (some ⟨pv, 0, none⟩) n cv, .map (some pm)]) :=
  v_loadcE (xs := [.slice (some ⟨pv, 0, none⟩) n cv, .map (some pm)]) (c := #[.slice (some ⟨pv, 0, none⟩) n cv, .map (some pm)]) hx rfl (fun w' hw' => rangeAt_take (k := 2) (rangeAt_drop (k := 2) (rangeAt_pt (cs := (lwA log db sb pv n cv pm).toList) (hw'.get hm)))) rfl
theorem does0_calls (log : Nat) (x : Lw) (B : Nat) (ok : LwOk x log B) (N : Int) (c : UInt8) (keep : Bys) (w : World) (hw : ∀ it ∈ lwL log x, Here it w) (ha : (lwL log x).Pairwise Eng.Item.Apart) :
    Ct Tryz.prog 9 #[.pointer (some ⟨x.xb, 0, none⟩), .agg (actA 0 N c keep)] w (foots (lwL log x)) (fun _ : Lw => .bool true) (DoesP x log B) (fun y => lwL log y) := by
  obtain ⟨hst, ar, hl1, hl2, hB⟩ := ok
  have hl := hst.len
  have hn := hst.hn
  obtain ⟨xb, s, d, pv, cv, pm, V, C, A⟩ := x
  dsimp only at hst hl hn ⊢
  refine cu_of [_, _] _ Tryz.func9 rfl rfl hw ha ?_
  unfold lwL lwC
  dsimp only
  simp only [argSlots, Nat.reduceAdd]
  refine goA ?_
  refine l_boxa rfl rfl fun b3 hb3 => ?_
  refine goA ?_
  refine t_pick [2, 1, 0, 3, 4, 5, 6] rfl rfl ?_
  refine t_drawm [1, 2, 3, 4, 5, 6] 11 rfl rfl (by kernel_rfl) ?_
  (repeat first | (apply d_w [8] rfl rfl rfl (by kernel_rfl) (fun _ h => by first | exact h | exact Hp.sub h (.cons _ (.refl _)) | exact Hp.sub h (.cons _ (.cons _ (.refl _))) | exact Hp.sub h (.cons _ (.cons _ (.cons _ (.refl _)))) | exact Hp.sub h (.cons _ (.cons _ (.cons _ (.cons _ (.refl _))))) | exact Hp.sub h (.cons _ (.cons _ (.cons _ (.cons _ (.cons _ (.refl _)))))) | exact Hp.sub h (.cons _ (.cons _ (.cons _ (.cons _ (.cons _ (.cons _ (.refl _))))))) | exact Hp.sub h (.cons_cons _ (.cons_cons _ (List.nil_sublist _))) | exact Hp.sub h (.cons _ (.cons_cons _ (.cons_cons _ (List.nil_sublist _))))); focus (first | exact v_move rfl | exact v_assign rfl | exact v_bt rfl rfl | exact v_extract rfl rfl | exact v_field0 rfl rfl | exact v_field rfl rfl | exact v_lens rfl rfl | exact v_lenstr rfl rfl | exact v_nt rfl | exact v_load1p rfl rfl (by repeat first | exact .head _ | apply List.Mem.tail) | exact v_loadn rfl rfl (by repeat first | exact .head _ | apply List.Mem.tail) rfl | exact v_loadp rfl rfl (by repeat first | exact .head _ | apply List.Mem.tail) rfl | exact v_loada rfl rfl (by repeat first | exact .head _ | apply List.Mem.tail) | exact v_eqb rfl rfl rfl | exact v_slA rfl rfl rfl | exact v_builds rfl rfl rfl rfl rfl | exact v_eqs rfl rfl | exact v_nc rfl | exact v_caps rfl rfl | exact v_eqpn rfl rfl rfl | exact v_nepn rfl rfl rfl | exact v_neps rfl rfl rfl rfl | ((first | refine v_bn rfl rfl ?_ | refine v_is1 rfl rfl rfl ?_ | refine v_ia1 rfl rfl rfl ?_ | refine v_sa rfl rfl rfl ?_ | refine v_sF rfl rfl rfl ?_ | refine v_sT rfl rfl rfl ?_ | refine v_sFT rfl rfl rfl rfl ?_ | refine v_lF rfl rfl rfl rfl ?_ | refine v_is rfl rfl rfl ?_ | refine v_ia rfl rfl rfl ?_ | refine v_lT rfl rfl rfl rfl ?_ | refine v_cv rfl rfl rfl ?_ | refine v_slLH rfl rfl rfl rfl rfl ?_ | refine v_sl3 rfl rfl rfl rfl rfl ?_); first | omega | assumption) | exact v_pT rfl rfl (by first | omega | assumption | (simp; done) | exact fun h => h (by assumption) | fail) | exact v_pF rfl rfl (by first | omega | assumption | (simp; done) | exact fun h => h (by assumption) | fail) | exact v_pickB rfl rfl rfl)) | refine d_no [8] rfl rfl rfl (by kernel_rfl) (fun _ h => by first | exact h | exact Hp.sub h (.cons _ (.refl _)) | exact Hp.sub h (.cons _ (.cons _ (.refl _))) | exact Hp.sub h (.cons _ (.cons _ (.cons _ (.refl _)))) | exact Hp.sub h (.cons _ (.cons _ (.cons _ (.cons _ (.refl _))))) | exact Hp.sub h (.cons _ (.cons _ (.cons _ (.cons _ (.cons _ (.refl _)))))) | exact Hp.sub h (.cons _ (.cons _ (.cons _ (.cons _ (.cons _ (.cons _ (.refl _))))))) | exact Hp.sub h (.cons_cons _ (.cons_cons _ (List.nil_sublist _))) | exact Hp.sub h (.cons _ (.cons_cons _ (.cons_cons _ (List.nil_sublist _))))) ?_ | refine d_T [8] rfl rfl rfl rfl (by first | omega | assumption | (simp; done) | exact fun h => h (by assumption) | fail) ?_ | refine d_F [8] rfl rfl rfl rfl (by first | omega | assumption | (simp; done) | exact fun h => h (by assumption) | fail) ?_)
  refine d_opg 8 ⟨by kernel_rfl, by decide⟩ rfl rfl (o_ct rfl (by kernel_rfl) rfl (fun w1 hw1 => full_calls c w1)) (fun _ _ h => goH h) fun ⟨b8, _⟩ => ?_
  simp only [List.cons_append, List.nil_append]
  refine goE ?_
  refine d_opg 9 ⟨by kernel_rfl, by decide⟩ rfl rfl (ho_perm (bring1 _ _ _) (o_cu (pre := [pgI s d]) rfl (by kernel_rfl) rfl (pg1_stable s d) (fun w1 hw1 hh1 ha1 => pgput_calls s d N (fullB c) List.length_replicate (some ⟨b8, 0, none⟩) 512 hst.dead (by rw [hn]; decide) w1 hh1 (.inr ⟨b8, 0, rfl, (hw1.item (rdI b8 (fullB c)) (by repeat first | exact .head _ | apply List.Mem.tail)).1.1⟩) (rd_apart hw1)))) (fun _ _ h => goH h) fun ⟨_, _⟩ => ?_
  refine goE ?_
  refine d_end (by kernel_rfl) ?_
  simp only [List.cons_append, List.nil_append]
  refine goA ?_
  refine t_pick [2, 3, 0, 4, 5, 6, 7] rfl rfl ?_
  generalize hs1 : (if N < 1 ∨ (s.n : Int) ≤ N then s else { s with C := insG s.C N.toNat (fullB c) }) = s1
  generalize he5 : (if N < 1 ∨ (s.n : Int) ≤ N then 2 else 0 : Nat) = e5
  refine t_drawm [1, 2, 3, 4, 5, 6] 19 rfl rfl (by kernel_rfl) ?_
  (repeat first | (apply d_w [4, 9] rfl rfl rfl (by kernel_rfl) (fun _ h => by first | exact h | exact Hp.sub h (.cons _ (.refl _)) | exact Hp.sub h (.cons _ (.cons _ (.refl _))) | exact Hp.sub h (.cons _ (.cons _ (.cons _ (.refl _)))) | exact Hp.sub h (.cons _ (.cons _ (.cons _ (.cons _ (.refl _))))) | exact Hp.sub h (.cons _ (.cons _ (.cons _ (.cons _ (.cons _ (.refl _)))))) | exact Hp.sub h (.cons _ (.cons _ (.cons _ (.cons _ (.cons _ (.cons _ (.refl _))))))) | exact Hp.sub h (.cons_cons _ (.cons_cons _ (List.nil_sublist _))) | exact Hp.sub h (.cons _ (.cons_cons _ (.cons_cons _ (List.nil_sublist _))))); focus (first | exact v_move rfl | exact v_assign rfl | exact v_bt rfl rfl | exact v_extract rfl rfl | exact v_field0 rfl rfl | exact v_field rfl rfl | exact v_lens rfl rfl | exact v_lenstr rfl rfl | exact v_nt rfl | exact v_load1p rfl rfl (by repeat first | exact .head _ | apply List.Mem.tail) | exact v_loadn rfl rfl (by repeat first | exact .head _ | apply List.Mem.tail) rfl | exact v_loadp rfl rfl (by repeat first | exact .head _ | apply List.Mem.tail) rfl | exact v_loada rfl rfl (by repeat first | exact .head _ | apply List.Mem.tail) | exact v_eqb rfl rfl rfl | exact v_slA rfl rfl rfl | exact v_builds rfl rfl rfl rfl rfl | exact v_eqs rfl rfl | exact v_nc rfl | exact v_caps rfl rfl | exact v_eqpn rfl rfl rfl | exact v_nepn rfl rfl rfl | exact v_neps rfl rfl rfl rfl | ((first | refine v_bn rfl rfl ?_ | refine v_is1 rfl rfl rfl ?_ | refine v_ia1 rfl rfl rfl ?_ | refine v_sa rfl rfl rfl ?_ | refine v_sF rfl rfl rfl ?_ | refine v_sT rfl rfl rfl ?_ | refine v_sFT rfl rfl rfl rfl ?_ | refine v_lF rfl rfl rfl rfl ?_ | refine v_is rfl rfl rfl ?_ | refine v_ia rfl rfl rfl ?_ | refine v_lT rfl rfl rfl rfl ?_ | refine v_cv rfl rfl rfl ?_ | refine v_slLH rfl rfl rfl rfl rfl ?_ | refine v_sl3 rfl rfl rfl rfl rfl ?_); first | omega | assumption) | exact v_pT rfl rfl (by first | omega | assumption | (simp; done) | exact fun h => h (by assumption) | fail) | exact v_pF rfl rfl (by first | omega | assumption | (simp; done) | exact fun h => h (by assumption) | fail) | exact v_pickB rfl rfl rfl)) | refine d_no [4, 9] rfl rfl rfl (by kernel_rfl) (fun _ h => by first | exact h | exact Hp.sub h (.cons _ (.refl _)) | exact Hp.sub h (.cons _ (.cons _ (.refl _))) | exact Hp.sub h (.cons _ (.cons _ (.cons _ (.refl _)))) | exact Hp.sub h (.cons _ (.cons _ (.cons _ (.cons _ (.refl _))))) | exact Hp.sub h (.cons _ (.cons _ (.cons _ (.cons _ (.cons _ (.refl _)))))) | exact Hp.sub h (.cons _ (.cons _ (.cons _ (.cons _ (.cons _ (.cons _ (.refl _))))))) | exact Hp.sub h (.cons_cons _ (.cons_cons _ (List.nil_sublist _))) | exact Hp.sub h (.cons _ (.cons_cons _ (.cons_cons _ (List.nil_sublist _))))) ?_ | refine d_T [4, 9] rfl rfl rfl rfl (by first | omega | assumption | (simp; done) | exact fun h => h (by assumption) | fail) ?_ | refine d_F [4, 9] rfl rfl rfl rfl (by first | omega | assumption | (simp; done) | exact fun h => h (by assumption) | fail) ?_)
  refine d_share (n' := 8) (listed' := #[true, true, true, true, true, true, true, true, true, true, true, false, false, false, false, false, false, false, false]) (fun b9 : Nat => [(0, .pointer (some ⟨xb, 0, none⟩)), (5, .int .i64 (e5 : Int)), (59, .pointer (some ⟨xb, 0, none⟩)), (65, .int .i64 N), (63, wV pv cv V pm), (69, strV (fullB c))]) (fun b9 => [rdI b9 (fullB c), pt xb (.cells (lwA log d.b s.b pv V.length cv pm) 41 (0, 0)), acC b3 0 N c keep, pgI s1 d, dkI d, ctI, tzI, arI A]) ?_ (fun hk => ?_)
  rotate_left
  · refine d_two 4 9 ⟨by kernel_rfl, by decide, by decide⟩ rfl rfl rfl rfl (o_val rfl (v_loadcE (xs := [.slice (some ⟨pv, 0, none⟩) V.length cv, .map (some pm)]) (c := #[.slice (some ⟨pv, 0, none⟩) V.length cv, .map (some pm)]) rfl rfl (fun w' hw' => lw_w (log := log) (x := ⟨xb, s, d, pv, cv, pm, V, C, A⟩) hw' (by repeat first | exact .head _ | apply List.Mem.tail)) rfl)) (o_ct rfl (by kernel_rfl) rfl (fun w1 hw1 => full_calls c w1)) (fun _ _ h => goH h) (fun _ _ h => goH h) (fun _ => ?_) (fun ⟨b9, _⟩ => ?_)
    · refine d_opg 9 ⟨by kernel_rfl, by decide⟩ rfl rfl (o_ct rfl (by kernel_rfl) rfl (fun w1 hw1 => full_calls c w1)) (fun _ _ h => goH h) fun ⟨b9, _⟩ => ?_
      refine d_opg 10 ⟨by kernel_rfl, by decide⟩ rfl rfl (o_val rfl (v_bstr (bs := fullB c) rfl (List.length_replicate).symm rfl rfl (fun w' hw' => .inr ⟨b9, 0, rfl, (hw'.item (rdI b9 (fullB c)) (.head _)).1.1⟩))) (fun _ _ h => goH h) fun _ => ?_
      exact hk b9 _ ⟨rfl, rfl, rfl, rfl, rfl, rfl, trivial⟩
    · refine d_two 4 10 ⟨by kernel_rfl, by decide, by decide⟩ rfl rfl rfl rfl (o_val rfl (v_loadcE (xs := [.slice (some ⟨pv, 0, none⟩) V.length cv, .map (some pm)]) (c := #[.slice (some ⟨pv, 0, none⟩) V.length cv, .map (some pm)]) rfl rfl (fun w' hw' => lw_w (log := log) (x := ⟨xb, s, d, pv, cv, pm, V, C, A⟩) hw' (by repeat first | exact .head _ | apply List.Mem.tail)) rfl)) (o_val rfl (v_bstr (bs := fullB c) rfl (List.length_replicate).symm rfl rfl (fun w' hw' => .inr ⟨b9, 0, rfl, (hw'.item (rdI b9 (fullB c)) (.head _)).1.1⟩))) (fun _ _ h => goH h) (fun _ _ h => goH h) (fun _ => ?_) (fun _ => ?_)
      · refine d_opg 10 ⟨by kernel_rfl, by decide⟩ rfl rfl (o_val rfl (v_bstr (bs := fullB c) rfl (List.length_replicate).symm rfl rfl (fun w' hw' => .inr ⟨b9, 0, rfl, (hw'.item (rdI b9 (fullB c)) (.head _)).1.1⟩))) (fun _ _ h => goH h) fun _ => ?_
        exact hk b9 _ ⟨rfl, rfl, rfl, rfl, rfl, rfl, trivial⟩
      · refine d_opg 4 ⟨by kernel_rfl, by decide⟩ rfl rfl (o_val rfl (v_loadcE (xs := [.slice (some ⟨pv, 0, none⟩) V.length cv, .map (some pm)]) (c := #[.slice (some ⟨pv, 0, none⟩) V.length cv, .map (some pm)]) rfl rfl (fun w' hw' => lw_w (log := log) (x := ⟨xb, s, d, pv, cv, pm, V, C, A⟩) hw' (by repeat first | exact .head _ | apply List.Mem.tail)) rfl)) (fun _ _ h => goH h) fun _ => ?_
        exact hk b9 _ ⟨rfl, rfl, rfl, rfl, rfl, rfl, trivial⟩
  · intro b9
    have hfl : (fullB c).length = 512 := List.length_replicate
    generalize fullB c = T at hs1 hfl ⊢
    (repeat first | (apply d_w [11] rfl rfl rfl (by kernel_rfl) (fun _ h => by first | exact h | exact Hp.sub h (.cons _ (.refl _)) | exact Hp.sub h (.cons _ (.cons _ (.refl _))) | exact Hp.sub h (.cons _ (.cons _ (.cons _ (.refl _)))) | exact Hp.sub h (.cons _ (.cons _ (.cons _ (.cons _ (.refl _))))) | exact Hp.sub h (.cons _ (.cons _ (.cons _ (.cons _ (.cons _ (.refl _)))))) | exact Hp.sub h (.cons _ (.cons _ (.cons _ (.cons _ (.cons _ (.cons _ (.refl _))))))) | exact Hp.sub h (.cons_cons _ (.cons_cons _ (List.nil_sublist _))) | exact Hp.sub h (.cons _ (.cons_cons _ (.cons_cons _ (List.nil_sublist _))))); focus (first | exact v_move rfl | exact v_assign rfl | exact v_bt rfl rfl | exact v_extract rfl rfl | exact v_field0 rfl rfl | exact v_field rfl rfl | exact v_lens rfl rfl | exact v_lenstr rfl rfl | exact v_nt rfl | exact v_load1p rfl rfl (by repeat first | exact .head _ | apply List.Mem.tail) | exact v_loadn rfl rfl (by repeat first | exact .head _ | apply List.Mem.tail) rfl | exact v_loadp rfl rfl (by repeat first | exact .head _ | apply List.Mem.tail) rfl | exact v_loada rfl rfl (by repeat first | exact .head _ | apply List.Mem.tail) | exact v_eqb rfl rfl rfl | exact v_slA rfl rfl rfl | exact v_builds rfl rfl rfl rfl rfl | exact v_eqs rfl rfl | exact v_nc rfl | exact v_caps rfl rfl | exact v_eqpn rfl rfl rfl | exact v_nepn rfl rfl rfl | exact v_neps rfl rfl rfl rfl | ((first | refine v_bn rfl rfl ?_ | refine v_is1 rfl rfl rfl ?_ | refine v_ia1 rfl rfl rfl ?_ | refine v_sa rfl rfl rfl ?_ | refine v_sF rfl rfl rfl ?_ | refine v_sT rfl rfl rfl ?_ | refine v_sFT rfl rfl rfl rfl ?_ | refine v_lF rfl rfl rfl rfl ?_ | refine v_is rfl rfl rfl ?_ | refine v_ia rfl rfl rfl ?_ | refine v_lT rfl rfl rfl rfl ?_ | refine v_cv rfl rfl rfl ?_ | refine v_slLH rfl rfl rfl rfl rfl ?_ | refine v_sl3 rfl rfl rfl rfl rfl ?_); first | omega | assumption) | exact v_pT rfl rfl (by first | omega | assumption | (simp; done) | exact fun h => h (by assumption) | fail) | exact v_pF rfl rfl (by first | omega | assumption | (simp; done) | exact fun h => h (by assumption) | fail) | exact v_pickB rfl rfl rfl)) | refine d_no [11] rfl rfl rfl (by kernel_rfl) (fun _ h => by first | exact h | exact Hp.sub h (.cons _ (.refl _)) | exact Hp.sub h (.cons _ (.cons _ (.refl _))) | exact Hp.sub h (.cons _ (.cons _ (.cons _ (.refl _)))) | exact Hp.sub h (.cons _ (.cons _ (.cons _ (.cons _ (.refl _))))) | exact Hp.sub h (.cons _ (.cons _ (.cons _ (.cons _ (.cons _ (.refl _)))))) | exact Hp.sub h (.cons _ (.cons _ (.cons _ (.cons _ (.cons _ (.cons _ (.refl _))))))) | exact Hp.sub h (.cons_cons _ (.cons_cons _ (List.nil_sublist _))) | exact Hp.sub h (.cons _ (.cons_cons _ (.cons_cons _ (List.nil_sublist _))))) ?_ | refine d_T [11] rfl rfl rfl rfl (by first | omega | assumption | (simp; done) | exact fun h => h (by assumption) | fail) ?_ | refine d_F [11] rfl rfl rfl rfl (by first | omega | assumption | (simp; done) | exact fun h => h (by assumption) | fail) ?_)
    by_cases hbad : N < 1 ∨ ((128 : Nat) : Int) ≤ N
    · rw [if_pos (by rw [hn]; exact hbad)] at hs1 he5
      subst hs1 he5
      refine d_opg 11 ⟨by kernel_rfl, by decide⟩ rfl rfl (o_pure rfl (by kernel_rfl) rfl (fun w1 hw1 => rput_bad pv cv V pm N (by rw [hl]; exact hbad) T w1)) (fun _ _ h => goH h) fun _ => ?_
      refine goE ?_
      refine d_opg 17 ⟨by kernel_rfl, by decide⟩ rfl rfl (ho_perm (bring1 _ _ _) (o_storerE (V := [.slice (some ⟨pv, 0, none⟩) V.length cv, .map (some pm)]) rfl rfl rfl rfl rfl rfl (show (2 + 2 : Nat) ≤ 5 from by decide))) (fun _ _ h => goH h) fun _ => ?_
      refine goE ?_
      refine d_end (by kernel_rfl) ?_
      refine goA ?_
      refine x_pick [0, 3, 4, 5, 6, 7] rfl rfl ?_
      exact x_ct ⟨xb, s, d, pv, cv, pm, V, C, A⟩ rfl rfl rfl ⟨rfl, rfl, fun _ h => h, ⟨hst, ar, hl1, hl2, hB⟩, id⟩ (.refl _) (lw_stable log ⟨xb, s, d, pv, cv, pm, V, C, A⟩)
    · rw [if_neg (by rw [hn]; exact hbad)] at hs1 he5
      subst hs1 he5
      obtain ⟨i, rfl⟩ : ∃ i : Nat, N = i := ⟨N.toNat, by omega⟩
      have hi1 : 1 ≤ i := by omega
      have hi2 : i < V.length := by omega
      refine d_opg 11 ⟨by kernel_rfl, by decide⟩ rfl rfl (o_ct rfl (by kernel_rfl) rfl (fun w1 hw1 => rput_ok pv cv V pm C i hi1 hi2 T hfl (by omega) w1 (ar_here (Here.of (hw1.item (arI A) (by repeat first | exact .head _ | apply List.Mem.tail)) (ar_stable A)) ar.map))) (fun _ _ h => goH h) fun ⟨pm', _⟩ => ?_
      simp only [List.cons_append, List.nil_append]
      refine goE ?_
      refine d_opg 17 ⟨by kernel_rfl, by decide⟩ rfl rfl (ho_perm (bring2 _ _ _ _) (o_storerE (V := [.slice (some ⟨pv, 0, none⟩) V.length cv, .map (some pm')]) rfl rfl rfl rfl rfl rfl (show (2 + 2 : Nat) ≤ 5 from by decide))) (fun _ _ h => goH h) fun _ => ?_
      refine goE ?_
      refine d_end (by kernel_rfl) ?_
      refine goA ?_
      have hst2 := hst.ins (i := i) (b := T) (by omega) hfl (by omega)
      refine x_imp (m' := lwL log ⟨xb, { s with C := insG s.C i T }, d, pv, cv, pm', V, withF V.length C i T, mC pm' (withF V.length C i T) :: A⟩) (fun w' hw' => ?_) ?_
      · exact (ar_add (mapN_stable _ _ _ _) ar.stable (hw'.pick [1, 8, 0, 4, 5, 6, 7] rfl rfl)).pick [1, 2, 3, 4, 5, 0] rfl rfl
      · exact x_ct ⟨xb, { s with C := insG s.C i T }, d, pv, cv, pm', V, withF V.length C i T, mC pm' (withF V.length C i T) :: A⟩ rfl rfl rfl ⟨rfl, rfl, fun _ h => .tail _ h, ⟨hst2, ⟨fun it hm => by rcases List.mem_cons.1 hm with rfl | hm; exact mapN_stable _ _ _ _; exact ar.stable it hm, .tail _ ar.rows, .head _⟩, hl1, hl2, hB⟩, id⟩ (.refl _) (lw_stable log _)
end Go.Proofs.YtplhamichcnmmaaGreatDoor

namespace Go.Proofs.YtplhamichcnmmaaGreatDoor
open Go.RowKit Go.Eng Go.Eng.Bm
set_option maxRecDepth 100000
set_option maxHeartbeats 40000000
theorem ar_map {x : Lw} (ar : Ar x) {pm : Nat} {C : PR} (xb : Nat) (s : Pg) (d : Dk) : Ar ⟨xb, s, d, x.pv, x.cv, pm, x.V, C, mC pm C :: x.A⟩ :=
  ⟨fun it hm => by rcases List.mem_cons.1 hm with rfl | hm; exact mapN_stable _ _ _ _; exact ar.stable it hm, .tail _ ar.rows, .head _⟩
theorem does67_calls (log : Nat) (x : Lw) (B : Nat) (ok : LwOk x log B) (k : Nat) (hk : k = 6 ∨ k = 7) (N : Int) (c : UInt8) (keep : Bys) (w : World) (hw : ∀ it ∈ lwL log x, Here it w) (ha : (lwL log x).Pairwise Eng.Item.Apart) :
    Ct Tryz.prog 9 #[.pointer (some ⟨x.xb, 0, none⟩), .agg (actA k N c keep)] w (foots (lwL log x)) (fun _ : Lw => .bool true) (DoesP x log B) (fun y => lwL log y) := by
  have hfin : DoesP x log B x := ⟨rfl, rfl, fun _ h => h, ok, id⟩
  rcases hk with rfl | rfl
  · refine cu_of [_, _] _ Tryz.func9 rfl rfl hw ha ?_
    unfold lwL lwC
    simp only [argSlots, Nat.reduceAdd]
    refine goA ?_
    refine l_boxa rfl rfl fun b3 hb3 => ?_
    refine goA ?_
    exact x_ct x rfl rfl rfl hfin (.cons _ (.refl _)) (lw_stable log x)
  · refine cu_of [_, _] _ Tryz.func9 rfl rfl hw ha ?_
    unfold lwL lwC
    simp only [argSlots, Nat.reduceAdd]
    refine goA ?_
    refine l_boxa rfl rfl fun b3 hb3 => ?_
    refine goA ?_
    exact x_ct x rfl rfl rfl hfin (.cons _ (.refl _)) (lw_stable log x)
theorem does4_calls (log : Nat) (x : Lw) (B : Nat) (ok : LwOk x log B) (N : Int) (c : UInt8) (keep : Bys) (w : World) (hw : ∀ it ∈ lwL log x, Here it w) (ha : (lwL log x).Pairwise Eng.Item.Apart) :
    Ct Tryz.prog 9 #[.pointer (some ⟨x.xb, 0, none⟩), .agg (actA 4 N c keep)] w (foots (lwL log x)) (fun _ : Lw => .bool true) (DoesP x log B) (fun y => lwL log y) := by
  obtain ⟨hst, ar, hl1, hl2, hB⟩ := ok
  obtain ⟨xb, s, d, pv, cv, pm, V, C, A⟩ := x
  dsimp only at hst ⊢
  refine cu_of [_, _] _ Tryz.func9 rfl rfl hw ha ?_
  unfold lwL lwC
  dsimp only
  simp only [argSlots, Nat.reduceAdd]
  refine goA ?_
  refine l_boxa rfl rfl fun b3 hb3 => ?_
  refine goA ?_
  refine l_pick [2, 1, 0, 3, 4, 5, 6] rfl rfl ?_
  refine l_opg rfl (o_cu (pre := [pgI s d]) rfl (by kernel_rfl) rfl (pg1_stable s d) (fun w1 hw1 hh1 ha1 => abort_calls s d w1 hh1)) fun ⟨_, _⟩ => ?_
  simp only [List.cons_append, List.nil_append]
  refine goA ?_
  refine l_w rfl (v_lw rfl (by repeat first | exact .head _ | apply List.Mem.tail)) ?_
  refine l_ctg rfl rfl (by kernel_rfl) rfl (fun w1 hw1 => rabort_calls pv cv V pm w1) fun x hx => ?_
  simp only [List.cons_append, List.nil_append]
  refine goA ?_
  refine l_op rfl (ho_perm (bring2 _ _ _ _) (o_storerE (V := [.slice (some ⟨pv, 0, none⟩) V.length cv, .map (some x)]) rfl rfl rfl rfl rfl rfl (show (2 + 2 : Nat) ≤ 5 from by decide))) fun _ => ?_
  refine goA ?_
  refine x_imp (m' := lwL log ⟨xb, { s with C := [] }, d, pv, cv, x, V, [], mC x [] :: A⟩) (fun w' hw' => ?_) ?_
  · exact (ar_add (mapN_stable _ _ _ _) ar.stable (hw'.pick [1, 7, 0, 2, 4, 5, 6] rfl rfl)).pick [1, 2, 3, 4, 5, 0] rfl rfl
  · exact x_ct ⟨xb, { s with C := [] }, d, pv, cv, x, V, [], mC x [] :: A⟩ rfl rfl rfl ⟨rfl, rfl, fun _ h => .tail _ h, ⟨hst.abort, ar_map ar xb _ d, hl1, hl2, hB⟩, id⟩ (.refl _) (lw_stable log _)
theorem least_false (S : Nat → Bool) : ∀ n, (∀ j, j < n → S j = true) ∨ ∃ a, a < n ∧ S a = false ∧ ∀ j, j < a → S j = true
  | 0 => .inl fun _ h => absurd h (Nat.not_lt_zero _)
  | n + 1 => by
    rcases least_false S n with h | ⟨a, h1, h2, h3⟩
    · cases hn : S n with
      | true => exact .inl fun j hj => by rcases Nat.lt_succ_iff_lt_or_eq.1 hj with h4 | rfl; exact h j h4; exact hn
      | false => exact .inr ⟨n, Nat.lt_succ_self n, hn, h⟩
    · exact .inr ⟨a, by omega, h2, h3⟩
theorem does1_calls (log : Nat) (x : Lw) (B : Nat) (ok : LwOk x log B) (N : Int) (c : UInt8) (keep : Bys) (w : World) (hw : ∀ it ∈ lwL log x, Here it w) (ha : (lwL log x).Pairwise Eng.Item.Apart) :
    Ct Tryz.prog 9 #[.pointer (some ⟨x.xb, 0, none⟩), .agg (actA 1 N c keep)] w (foots (lwL log x)) (fun _ : Lw => .bool true) (DoesP x log B) (fun y => lwL log y) := by
  obtain ⟨hst, ar, hl1, hl2, hB⟩ := ok
  have hl := hst.len
  have hn := hst.hn
  have ho := hst.ok
  have hz := hst.siz
  have hr := hst.rest
  have hwt : x.d.D.wait.length ≤ 1000000000 := by rw [hr.wait]; decide
  obtain ⟨xb, s, d, pv, cv, pm, V, C, A⟩ := x
  dsimp only at hst hl hn ho hz hr hwt ⊢
  obtain ⟨S, hS1, hS2, hS3⟩ := hst.bm
  have hSp : pageB s d.D 0 = bmB s.n S := by rw [hst.pageB (by decide), hS1, hn]
  have hSw : viewF V C 0 = bmB V.length S := by rw [hS1, hl]
  have hS2' : Canon s.n S := by rw [hn]; exact hS2
  refine cu_of [_, _] _ Tryz.func9 rfl rfl hw ha ?_
  unfold lwL lwC
  dsimp only
  simp only [argSlots, Nat.reduceAdd]
  refine goA ?_
  refine l_boxa rfl rfl fun b3 hb3 => ?_
  refine goA ?_
  refine l_pick [2, 3, 5, 1, 0, 4, 6] rfl rfl ?_
  rcases least_false S 128 with hall | ⟨a, ha1, ha2, ha3⟩
  · refine l_opg rfl (o_cu (pre := [pgI s d, dkI d, tzI]) rfl (by kernel_rfl) rfl (pdt_stable s d) (fun w1 hw1 hh1 ha1 => pgalloc_none s d hz.ok hr.live hwt hst.dead ho (by rw [hn]; decide) S hSp hS2' (by rw [hn]; exact hall) w1 hh1 ha1)) fun ⟨_, _⟩ => ?_
    have hst2 := hst.page (i := 0) (by decide)
    have hsb2 := pageS_b s d.D 0
    generalize pageS s d.D 0 = s2 at hst2 hsb2 ⊢
    simp only [List.cons_append, List.nil_append]
    refine goA ?_
    refine l_w rfl (v_lw rfl (by repeat first | exact .head _ | apply List.Mem.tail)) ?_
    refine l_opg rfl (o_pure rfl (by kernel_rfl) rfl (fun w1 hw1 => ralloc_none pv cv V pm C S hSw (by rw [hl]; exact hall) (by omega) w1 (rsI_rd (ar_here (Here.of (hw1.item (arI A) (by repeat first | exact .head _ | apply List.Mem.tail)) (ar_stable A)) ar.rows).1) (ar_here (Here.of (hw1.item (arI A) (by repeat first | exact .head _ | apply List.Mem.tail)) (ar_stable A)) ar.map))) fun _ => ?_
    refine goA ?_
    refine l_alloca rfl rfl fun b9 hb9 => ?_
    refine goA ?_
    refine l_op rfl (o_storea (cs' := #[.slice (some ⟨pv, 0, none⟩) V.length cv, .map (some pm)]) rfl rfl rfl rfl rfl rfl) fun _ => ?_
    refine goA ?_
    refine l_op rfl (ho_perm (bring4 _ _ _ _ _ _) (o_storerE (V := [.slice (some ⟨pv, 0, none⟩) V.length cv, .map (some pm)]) rfl rfl rfl rfl rfl rfl (show (2 + 2 : Nat) ≤ 5 from by decide))) fun _ => ?_
    refine goA ?_
    rw [← hsb2]
    refine x_pick [0, 2, 3, 6, 4, 7] rfl rfl ?_
    exact x_ct ⟨xb, s2, d, pv, cv, pm, V, C, A⟩ rfl rfl rfl ⟨rfl, rfl, fun _ h => h, ⟨hst2, ⟨ar.stable, ar.rows, ar.map⟩, hl1, hl2, hB⟩, id⟩ (.refl _) (lw_stable log ⟨xb, s2, d, pv, cv, pm, V, C, A⟩)
  · refine l_opg rfl (o_cu (pre := [pgI s d, dkI d, tzI]) rfl (by kernel_rfl) rfl (pdt_stable s d) (fun w1 hw1 hh1 ha1' => pgalloc_some s d hz.ok hr.live hwt hst.dead ho S hSp hS2' hS3 a (by rw [hn]; exact ha1) ha2 ha3 w1 hh1 ha1')) fun ⟨_, _⟩ => ?_
    have hst2 := hst.page (i := 0) (by decide)
    have hS1' : BmIs 128 (bmB V.length (upd S a true)) (upd S a true) := ⟨by rw [hl], canon_upd hS2 ha1, by unfold upd; split; rfl; exact hS3⟩
    have hst3 := hst2.ins (i := 0) (b := bmB V.length (upd S a true)) (by decide) (bmB_len _ _) (fun _ => ⟨_, hS1'⟩)
    have ha0 : a ≠ 0 := fun h => by rw [h, hS3] at ha2; cases ha2
    have hst4 : StX (allocS s d.D S a) d.D 128 log noteB V (withF V.length (withF V.length C 0 (bmB V.length (upd S a true))) a zeroB) B := by
      unfold allocS
      rw [show bmB s.n (upd S a true) = bmB V.length (upd S a true) by rw [hl, hn]]
      exact hst3.ins (i := a) (b := zeroB) ha1 List.length_replicate (fun h => absurd h ha0)
    have hsb4 : (allocS s d.D S a).b = s.b := pageS_b s d.D 0
    generalize allocS s d.D S a = s4 at hst4 hsb4 ⊢
    simp only [List.cons_append, List.nil_append]
    refine goA ?_
    refine l_w rfl (v_lw rfl (by repeat first | exact .head _ | apply List.Mem.tail)) ?_
    refine l_ctg rfl rfl (by kernel_rfl) rfl (fun w1 hw1 => ralloc_some pv cv V pm C S hSw a (by rw [hl]; exact ha1) ha2 ha3 (by omega) w1 (rsI_rd (ar_here (Here.of (hw1.item (arI A) (by repeat first | exact .head _ | apply List.Mem.tail)) (ar_stable A)) ar.rows).1) (ar_here (Here.of (hw1.item (arI A) (by repeat first | exact .head _ | apply List.Mem.tail)) (ar_stable A)) ar.map)) fun x hx => ?_
    generalize withF V.length (withF V.length C 0 (bmB V.length (upd S a true))) a zeroB = C4 at hst4 ⊢
    simp only [List.cons_append, List.nil_append]
    refine goA ?_
    refine l_alloca rfl rfl fun b9 hb9 => ?_
    refine goA ?_
    refine l_op rfl (o_storea (cs' := #[.slice (some ⟨pv, 0, none⟩) V.length cv, .map (some x)]) rfl rfl rfl rfl rfl rfl) fun _ => ?_
    refine goA ?_
    refine l_op rfl (ho_perm (bring5 _ _ _ _ _ _ _) (o_storerE (V := [.slice (some ⟨pv, 0, none⟩) V.length cv, .map (some x)]) rfl rfl rfl rfl rfl rfl (show (2 + 2 : Nat) ≤ 5 from by decide))) fun _ => ?_
    refine goA ?_
    rw [← hsb4]
    refine x_imp (m' := lwL log ⟨xb, s4, d, pv, cv, x, V, C4, mC x C4 :: A⟩) (fun w' hw' => ?_) ?_
    · exact (ar_add (mapN_stable _ _ _ _) ar.stable (hw'.pick [2, 8, 0, 3, 4, 7, 5] rfl rfl)).pick [1, 2, 3, 4, 5, 0] rfl rfl
    · exact x_ct ⟨xb, s4, d, pv, cv, x, V, C4, mC x C4 :: A⟩ rfl rfl rfl ⟨rfl, rfl, fun _ h => .tail _ h, ⟨hst4, ar_map ar xb _ d, hl1, hl2, hB⟩, id⟩ (.refl _) (lw_stable log _)
end Go.Proofs.YtplhamichcnmmaaGreatDoor
