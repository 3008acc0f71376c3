/- package pack, the packer: what is put. -/
/- package pack, the opener: what is taken of bytes. -/
import Derived.Test.YtplhamichcnmmaaGreatDoorHc08
import Derived.Test.YtplhamichcnmmaaGreatDoorHc07
import Derived.Test.YtplhamichcnmmaaGreatDoorHc11
import Derived.Test.YtplhamichcnmmaaGreatDoorProg
namespace Go.Proofs.YtplhamichcnmmaaGreatDoor
open Go.RowKit Go.Eng
set_option maxRecDepth 100000
set_option maxHeartbeats 40000000
theorem clone_calls (a : Option Addr) (n c : Nat) (bs : List UInt8) (hn : bs.length = n) (hz : n ≤ 1000000000) (w : World) (hr : Rd w a (bytesV bs)) :
    Ct Tryz.prog 91 #[.slice a n c] w none' (fun o : Option (Nat × Nat) => slV o n) (fun _ => True) (fun o => [own 5 1 o n (bytesV bs)]) := by
  refine ct_of [_] Tryz.func91 rfl rfl ?_
  simp only [argSlots]
  refine goA ?_
  refine l_w rfl (v_eqsn rfl rfl rfl) ?_
  cases a with
  | none =>
    have hz : bs = [] := by
      rcases hr with h | ⟨b, off, h, -⟩
      · cases bs with | nil => rfl | cons x r => simp [bytesV] at h
      · cases h
    subst hz
    subst hn
    refine goA ?_
    refine x_imp (fun w hw => hp_nil1 5 1 hw) ?_
    exact x_ct none rfl rfl rfl trivial (.cons_cons _ (List.nil_sublist _)) (by simp [own_stable])
  | some a =>
    refine goA ?_
    refine l_op rfl (o_build0 (e := 5) (sz := 1) rfl rfl rfl) fun ⟨b, hb⟩ => ?_
    refine goA ?_
    refine l_op rfl (o_append (o := some (b, 0)) (n := 0) (news := bytesV bs) rfl rfl rfl rfl rfl rfl (by rw [bytesV_length, hn, Nat.mul_one]) (bytesV_one _) (by omega) (fun w' hw' j v hj => ?_)) fun o => ?_
    · rcases hr with h | ⟨b2, off, h, h2⟩
      · rw [h] at hj; simp at hj
      · cases h
        rw [add_at]
        exact hw'.old (fun h => h) (h2 j v hj)
    rw [Nat.zero_add, List.nil_append]
    refine goA ?_
    exact x_ct o rfl rfl rfl trivial (.cons_cons _ (List.nil_sublist _)) (by simp [own_stable])
abbrev pks (b : Nat) (o : Option (Nat × Nat)) (xs : List UInt8) : List Eng.Item := [own 5 1 o xs.length (bytesV xs), pt b (.cells #[slV o xs.length, .int .i64 0] 156 (0, 0))]
theorem new_calls (w : World) : Ct Tryz.prog 60 #[] w none' (fun b : Nat => .pointer (some ⟨b, 0, none⟩)) (fun _ => True) (fun b => pks b none []) := by
  refine ct_of [] Tryz.func60 rfl rfl ?_
  simp only [argSlots]
  refine goA ?_
  refine l_boxa rfl rfl fun b hb => ?_
  refine goA ?_
  refine x_imp (fun w hw => hp_nil1 5 1 hw) ?_
  exact x_ct b rfl rfl rfl trivial (.refl _) (by simp [own_stable, pt_stable])
theorem wide_calls (n : Nat) (h : n = 1 ∨ n = 2 ∨ n = 4 ∨ n = 8) (w : World) : Pu Tryz.prog 92 #[.int .i64 n] w (.bool true) := by
  refine pu_of [_] Tryz.func92 rfl rfl ?_
  simp only [argSlots]
  rcases h with rfl | rfl | rfl | rfl
  all_goals
    refine goA ?_
    exact x_pu rfl rfl rfl
theorem puts_calls {α : Type} (b : Nat) (o : Option (Nat × Nat)) (xs bs : List UInt8) (f : FuncId) (cs : List Value) (ad : α → Addr) (cp : α → Nat) (it : α → Eng.Item) (hst : ∀ x, (it x).Stable none') (hf : hasBody Tryz.prog f = true) (hz : xs.length + bs.length ≤ 1000000000) (w : World)
    (hw : ∀ it ∈ pks b o xs, Here it w) (ha : (pks b o xs).Pairwise Eng.Item.Apart)
    (hmk : ∀ w1, Hp w (foots (pks b o xs)) (pks b o xs) w1 → Ct Tryz.prog f cs.toArray w1 none' (fun x : α => .slice (some (ad x)) bs.length (cp x)) (fun _ => True) (fun x => [it x]))
    (hrd : ∀ x w1, (it x).prop w1 → Fr (foots (pks b o xs)) w w1 → ∀ (j : Nat) (u : Value), (bytesV bs)[j]? = some u → w1.cell? ((ad x).add j) = some u) :
    Ct Tryz.prog 108 #[.pointer (some ⟨b, 0, none⟩), .bool true, .func (.func f) #[] cs.toArray] w (foots (pks b o xs)) (fun _ : Option (Nat × Nat) => .pointer (some ⟨b, 0, none⟩)) (fun _ => True) (fun o' => pks b o' (xs ++ bs)) := by
  refine cu_of [_, _, _] _ Tryz.func108 rfl rfl hw ha ?_
  simp only [argSlots, Nat.reduceAdd]
  refine goA ?_
  refine t_drawm [1] 10 rfl rfl (by kernel_rfl) ?_
  refine goE ?_
  refine d_opg 6 ⟨by kernel_rfl, by decide⟩ rfl rfl (o_ctF (fs := []) (cs := cs) rfl hf rfl rfl rfl (fun w1 hw1 => hmk w1 hw1)) (fun _ _ h => goH h) fun ⟨x, hx⟩ => ?_
  refine goE ?_
  refine d_opg 7 ⟨by kernel_rfl, by decide⟩ rfl rfl (ho_perm (bring1 _ _ _) (o_append (news := bytesV bs) rfl rfl rfl rfl rfl rfl (by rw [bytesV_length, Nat.mul_one]) (bytesV_one _) (by omega) (fun w' hw' j v hj => hrd x w' (hw'.item (it x) (by simp)).1 hw'.fr j v hj))) (fun _ _ h => goH h) fun o' => ?_
  refine goE ?_
  refine d_tail ⟨by kernel_rfl, by kernel_rfl⟩ rfl rfl (ho_perm (bring2 _ _ _ _) (o_store1 rfl rfl rfl rfl (slV_cells _ _) (slV_one _ _) (by simp))) fun _ => ?_
  rw [← bytesV_app, ← List.length_append]
  refine goA ?_
  refine x_pick [1, 0] rfl rfl ?_
  exact x_ct o' rfl rfl rfl trivial (.refl _) (by simp [own_stable, pt_stable])
theorem out_of {w0 w : World} {F : Nat → Prop} {pre m : List Eng.Item} (hw : Hp w0 F (pre ++ m) w) {b : Nat} {o : Obj} (hm : pt b o ∈ m) : ¬ foots pre b := fun ⟨it, h1, h2⟩ => (List.pairwise_append.1 hw.apart).2.2 it h1 _ hm b h2 rfl
/-! ### Text -/
theorem textF_calls (bx : Nat) (s : ByteArray) (w : World) (hc : w.cell? ⟨bx, 0, none⟩ = some (.string s)) :
    Ct Tryz.prog 110 #[.pointer (some ⟨bx, 0, none⟩)] w none' (fun p : Nat × Nat => .slice (some ⟨p.1, 0, none⟩) s.data.toList.length p.2) (fun _ => True) (fun p => [strRow 5 s.data.toList p.1 p.2]) := by
  refine ct_of [_] Tryz.func110 rfl rfl ?_
  simp only [argSlots]
  refine goA ?_
  refine l_w rfl (v_load0 rfl rfl (fun h => h) hc) ?_
  refine l_op rfl (o_strb rfl rfl rfl rfl) fun ⟨p, h1, h2⟩ => ?_
  refine goA ?_
  rw [ba_size]
  exact x_ct p rfl rfl rfl trivial (.cons_cons _ (List.nil_sublist _)) (by simp [pt_stable])
theorem text_calls (b : Nat) (o : Option (Nat × Nat)) (xs : List UInt8) (s : ByteArray) (hz : xs.length + s.size ≤ 1000000000) (w : World) (hw : ∀ it ∈ pks b o xs, Here it w) (ha : (pks b o xs).Pairwise Eng.Item.Apart) :
    Ct Tryz.prog 62 #[.pointer (some ⟨b, 0, none⟩), .string s] w (foots (pks b o xs)) (fun _ : Option (Nat × Nat) => .pointer (some ⟨b, 0, none⟩)) (fun _ => True) (fun o' => pks b o' (xs ++ s.data.toList)) := by
  refine cu_of [_, _] _ Tryz.func62 rfl rfl hw ha ?_
  simp only [argSlots, Nat.reduceAdd]
  refine goA ?_
  refine l_box1 rfl rfl rfl fun bx hbx => ?_
  refine goA ?_
  refine l_w rfl (v_mkf rfl) ?_
  refine l_perm (bring2 _ _ _ _) ?_
  refine l_perm (bring2 _ _ _ _) ?_
  refine l_opg rfl (o_cu (pre := [own _ _ _ _ _, pt b _]) rfl (by kernel_rfl) rfl (by first | (simp [pt_stable, own_stable, mp_stable]; done) | (intro it hm; (iterate 6 (all_goals try (rcases hm with _ | ⟨_, hm⟩))) <;> first | exact bundle_stable _ | exact pt_stable _ _ _ | exact own_stable _ _ _ _ _ _)) (fun w1 hw1 hh1 ha1 => puts_calls b o xs s.data.toList 110 [.pointer (some ⟨bx, 0, none⟩)] (fun p : Nat × Nat => ⟨p.1, 0, none⟩) (fun p => p.2) (fun p => strRow 5 s.data.toList p.1 p.2) (fun p => pt_stable _ _ _) (by kernel_rfl) (by rw [ba_size]; exact hz) w1 hh1 ha1 (fun w2 hw2 => textF_calls bx s w2 (hw2.old (out_of hw1 (.head _)) (cell_pt (hw1.get (.tail _ (.tail _ (.head _)))) rfl))) (fun p w2 hp _ j v hj => by rw [add_at, Nat.zero_add]; have := strRow_at hp j v hj; rwa [Nat.zero_add] at this))) fun ⟨x, hx⟩ => ?_
  refine goA ?_
  exact x_ct x rfl rfl rfl trivial (.cons_cons _ (.cons_cons _ (List.nil_sublist _))) (by simp [own_stable, pt_stable])
/-! ### Hash -/
theorem beN_at : ∀ (w n k : Nat), k < w → (beN w n)[k]? = some (UInt8.ofNat (n / 256 ^ (w - 1 - k)))
  | 0, _, _, h => by omega
  | w + 1, n, k, h => by
    rw [beN]
    by_cases hk : k < w
    · rw [List.getElem?_append_left (by rw [beN_length]; exact hk), beN_at w (n / 256) k hk, Nat.div_div_eq_div_mul, show w + 1 - 1 - k = (w - 1 - k) + 1 by omega, Nat.pow_succ, Nat.mul_comm]
    · obtain rfl : k = w := by omega
      rw [List.getElem?_append_right (by rw [beN_length]; omega), beN_length, show k + 1 - 1 - k = 0 by omega, Nat.sub_self]
      simp
theorem beN_take {w n k : Nat} (h : k < w) : (beN w n).take (k + 1) = (beN w n).take k ++ [UInt8.ofNat (n / 256 ^ (w - 1 - k))] := by
  rw [List.take_add_one, beN_at w n k h]; rfl
theorem pow256 (j : Nat) : 2 ^ (8 * j) = 256 ^ j := by rw [Nat.pow_mul]
theorem putF_calls (b4 b5 wd n : Nat) (h : 1 ≤ wd ∧ wd ≤ 8) (w : World) (h4 : w.cell? ⟨b4, 0, none⟩ = some (.int .i64 wd)) (h5 : w.cell? ⟨b5, 0, none⟩ = some (.int .u64 n)) :
    Ct Tryz.prog 109 #[.pointer (some ⟨b4, 0, none⟩), .pointer (some ⟨b5, 0, none⟩)] w none' (fun p : Nat × Nat => .slice (some ⟨p.1, 0, none⟩) wd p.2) (fun _ => True) (fun p => [own 5 1 (some p) wd (bytesV (beN wd n))]) := by
  refine ct_of [_, _] Tryz.func109 rfl rfl ?_
  simp only [argSlots, Nat.reduceAdd]
  refine goA ?_
  refine l_w rfl (v_load0 rfl rfl (fun h => h) h4) ?_
  refine goA ?_
  refine t_for (α := Nat × Option (Nat × Nat)) (fun y => [(0, .pointer (some ⟨b4, 0, none⟩)), (1, .pointer (some ⟨b5, 0, none⟩)), (3, slV y.2 y.1), (4, .int .i64 ((wd : Int) - 1 - y.1))]) (fun y => y.1 ≤ wd) (fun y => [own 5 1 y.2 y.1 (bytesV ((beN wd n).take y.1))]) (fun y => wd - y.1) (0, none) ⟨rfl, rfl, rfl, by show some (Value.int .i64 (((wd - 1 : Nat) : Int))) = some (Value.int .i64 ((wd : Int) - 1 - (0 : Nat))); congr 2; omega, trivial⟩ (Nat.zero_le _) (fun w' hw' => hp_nil1 5 1 hw') fun ⟨k, o⟩ hk => ?_
  simp only at hk ⊢
  by_cases hk2 : k < wd
  · obtain ⟨j, hj⟩ : ∃ j : Nat, (wd : Int) - 1 - k = j := ⟨wd - 1 - k, by omega⟩
    rw [hj]
    have hjw : wd - 1 - k = j := by omega
    have hj8 : j ≤ 7 := by omega
    refine goA ?_
    refine l_w rfl (v_load0 rfl rfl (fun h => h) h5) ?_
    refine goA ?_
    refine l_w rfl (v_cvM rfl rfl rfl) ?_
    have hb : (Value.int .u8 ((n / 2 ^ (8 * j) % 256 : Nat) : Int)) = .int .u8 ((UInt8.ofNat (n / 256 ^ j)).toNat : Int) := by rw [pow256]; simp
    rw [hb]
    refine l_op rfl (o_buildslice rfl rfl rfl rfl rfl rfl) fun ⟨bq, hbq⟩ => ?_
    refine goA ?_
    refine l_op rfl (ho_perm (bring1 _ _ _) (o_append (news := bytesV [UInt8.ofNat (n / 256 ^ j)]) rfl rfl rfl rfl rfl rfl rfl rfl (by omega) (fun w' hw' i v hi => by rw [add_at, Nat.zero_add]; exact own_rd (hw'.item _ (.tail _ (.head _))).1 i v hi))) fun o' => ?_
    refine goA ?_
    refine l_w rfl (v_subI rfl rfl (by omega)) ?_
    refine goA ?_
    refine x_round (k + 1, o') ⟨rfl, rfl, rfl, by show some (Value.int .i64 ((j : Int) - 1)) = some (Value.int .i64 ((wd : Int) - 1 - ((k + 1 : Nat) : Int))); congr 2; omega, trivial⟩ hk2 (fun w' hw' => ?_) (by simp only; omega)
    rw [beN_take hk2, hjw, bytesV_app]
    exact hw'.sub (.cons_cons _ (List.nil_sublist _))
  · obtain rfl : k = wd := by omega
    refine goA ?_
    have ht : (beN k n).take k = beN k n := List.take_of_length_le (by rw [beN_length]; exact Nat.le_refl _)
    rw [ht]
    match o with
    | none => exact x_fact (fun w hw => show False by have h1 : k = 0 := (hw.item _ (.head _)).1.2; omega) fun h => h.elim
    | some o => exact x_ct o rfl rfl rfl trivial (.refl _) (by simp [own_stable])
theorem put_calls (b : Nat) (o : Option (Nat × Nat)) (xs : List UInt8) (wd n : Nat) (hd : wd = 1 ∨ wd = 2 ∨ wd = 4) (hn : n < 256 ^ wd) (hz : xs.length ≤ 900000000) (w : World) (hw : ∀ it ∈ pks b o xs, Here it w) (ha : (pks b o xs).Pairwise Eng.Item.Apart) :
    Ct Tryz.prog 61 #[.pointer (some ⟨b, 0, none⟩), .int .i64 wd, .int .u64 n] w (foots (pks b o xs)) (fun _ : Option (Nat × Nat) => .pointer (some ⟨b, 0, none⟩)) (fun _ => True) (fun o' => pks b o' (xs ++ beN wd n)) := by
  refine cu_of [_, _, _] _ Tryz.func61 rfl rfl hw ha ?_
  simp only [argSlots, Nat.reduceAdd]
  have hd8 : 1 ≤ wd ∧ wd ≤ 8 := by omega
  have hne : ¬ (wd : Int) = 8 := by omega
  have hsh : n / 2 ^ (8 * min 7 wd) = 0 := by
    rw [show min 7 wd = wd by omega, pow256]
    exact Nat.div_eq_of_lt hn
  have h7 : 8 * min 7 wd < 64 := by omega
  refine goA ?_
  refine l_box1 rfl rfl rfl fun b4 hb4 => ?_
  refine goA ?_
  refine l_box1 rfl rfl rfl fun b5 hb5 => ?_
  refine goA ?_
  refine l_opg rfl (o_pure rfl (by kernel_rfl) rfl (fun w1 hw1 => wide_calls wd (by omega) w1)) fun _ => ?_
  refine goA ?_
  refine l_w rfl (v_min rfl rfl) ?_
  refine goA ?_
  rw [hsh]
  refine goA ?_
  refine l_w rfl (v_mkf rfl) ?_
  refine l_pick [2, 3, 1, 0] rfl rfl ?_
  refine l_opg rfl (o_cu (pre := [own _ _ _ _ _, pt b _]) rfl (by kernel_rfl) rfl (by first | (simp [pt_stable, own_stable, mp_stable]; done) | (intro it hm; (iterate 6 (all_goals try (rcases hm with _ | ⟨_, hm⟩))) <;> first | exact bundle_stable _ | exact pt_stable _ _ _ | exact own_stable _ _ _ _ _ _)) (fun w1 hw1 hh1 ha1 => puts_calls b o xs (beN wd n) 109 [.pointer (some ⟨b4, 0, none⟩), .pointer (some ⟨b5, 0, none⟩)] (fun p : Nat × Nat => ⟨p.1, 0, none⟩) (fun p => p.2) (fun p => own 5 1 (some p) wd (bytesV (beN wd n))) (fun p => own_stable _ _ _ _ _ _) (by kernel_rfl) (by rw [beN_length]; omega) w1 hh1 ha1 (fun w2 hw2 => by rw [beN_length]; exact putF_calls b4 b5 wd n hd8 w2 (hw2.old (out_of hw1 (.head _)) (cell_pt (hw1.get (.tail _ (.tail _ (.head _)))) rfl)) (hw2.old (out_of hw1 (.tail _ (.head _))) (cell_pt (hw1.get (.tail _ (.tail _ (.tail _ (.head _))))) rfl))) (fun p w2 hp _ j v hj => by rw [add_at, Nat.zero_add]; exact own_rd hp j v hj))) fun ⟨x, hx⟩ => ?_
  refine goA ?_
  exact x_ct x rfl rfl rfl trivial (.cons_cons _ (.cons_cons _ (List.nil_sublist _))) (by simp [own_stable, pt_stable])
/-! ### Name -/
theorem nameF_calls (bx : Nat) (s : ByteArray) (hs : s.size < 256) (w : World) (hc : w.cell? ⟨bx, 0, none⟩ = some (.string s)) :
    Ct Tryz.prog 160 #[.pointer (some ⟨bx, 0, none⟩)] w none' (fun p : Nat × Nat => .slice (some ⟨p.1, 0, none⟩) (1 + s.size) p.2) (fun _ => True) (fun p => [own 5 1 (some p) (1 + s.size) (bytesV (beN 1 s.size ++ s.data.toList))]) := by
  refine ct_of [_] Tryz.func160 rfl rfl ?_
  simp only [argSlots]
  refine goA ?_
  refine l_w rfl (v_load0 rfl rfl (fun h => h) hc) ?_
  refine goA ?_
  have hb : (Value.int .u8 (s.size : Int)) = .int .u8 ((UInt8.ofNat s.size).toNat : Int) := by simp; omega
  rw [hb]
  refine l_op rfl (o_buildslice rfl rfl rfl rfl rfl rfl) fun ⟨bq, hbq⟩ => ?_
  refine goA ?_
  refine l_w rfl (v_load0 rfl rfl (fun h => h) hc) ?_
  refine l_op rfl (o_appstr (o := some (bq, 1)) rfl rfl rfl rfl rfl rfl (by omega)) fun o' => ?_
  refine goA ?_
  match o' with
  | none => exact x_fact (fun w hw => show False by have h1 : 1 + s.size = 0 := (hw.item _ (.head _)).1.2; omega) fun h => h.elim
  | some o =>
    exact x_ct o rfl rfl rfl trivial (.refl _) (by simp [own_stable])
theorem name_calls (b : Nat) (o : Option (Nat × Nat)) (xs : List UInt8) (s : ByteArray) (hs : s.size < 256) (hz : xs.length ≤ 900000000) (w : World) (hw : ∀ it ∈ pks b o xs, Here it w) (ha : (pks b o xs).Pairwise Eng.Item.Apart) :
    Ct Tryz.prog 141 #[.pointer (some ⟨b, 0, none⟩), .string s] w (foots (pks b o xs)) (fun _ : Option (Nat × Nat) => .pointer (some ⟨b, 0, none⟩)) (fun _ => True) (fun o' => pks b o' (xs ++ (beN 1 s.size ++ s.data.toList))) := by
  refine cu_of [_, _] _ Tryz.func141 rfl rfl hw ha ?_
  simp only [argSlots, Nat.reduceAdd]
  have hl : (beN 1 s.size ++ s.data.toList).length = 1 + s.size := by rw [List.length_append, beN_length, ba_size]
  refine goA ?_
  refine l_box1 rfl rfl rfl fun bx hbx => ?_
  refine goA ?_
  refine l_say 8 _ (.bool true) rfl (by rw [decide_eq_true]; omega) ?_
  refine l_w rfl (v_mkf rfl) ?_
  refine l_perm (bring2 _ _ _ _) ?_
  refine l_perm (bring2 _ _ _ _) ?_
  refine l_opg rfl (o_cu (pre := [own _ _ _ _ _, pt b _]) rfl (by kernel_rfl) rfl (by first | (simp [pt_stable, own_stable, mp_stable]; done) | (intro it hm; (iterate 6 (all_goals try (rcases hm with _ | ⟨_, hm⟩))) <;> first | exact bundle_stable _ | exact pt_stable _ _ _ | exact own_stable _ _ _ _ _ _)) (fun w1 hw1 hh1 ha1 => puts_calls b o xs (beN 1 s.size ++ s.data.toList) 160 [.pointer (some ⟨bx, 0, none⟩)] (fun p : Nat × Nat => ⟨p.1, 0, none⟩) (fun p => p.2) (fun p => own 5 1 (some p) (1 + s.size) (bytesV (beN 1 s.size ++ s.data.toList))) (fun p => own_stable _ _ _ _ _ _) (by kernel_rfl) (by rw [hl]; omega) w1 hh1 ha1 (fun w2 hw2 => by rw [hl]; exact nameF_calls bx s hs w2 (hw2.old (out_of hw1 (.head _)) (cell_pt (hw1.get (.tail _ (.tail _ (.head _)))) rfl))) (fun p w2 hp _ j v hj => by rw [add_at, Nat.zero_add]; exact own_rd hp j v hj))) fun ⟨x, hx⟩ => ?_
  refine goA ?_
  exact x_ct x rfl rfl rfl trivial (.cons_cons _ (.cons_cons _ (List.nil_sublist _))) (by simp [own_stable, pt_stable])
/-! ### Bytes -/
theorem bytes_calls (b : Nat) (o : Option (Nat × Nat)) (xs : List UInt8) (hz : xs.length ≤ 900000000) (w : World) (hw : ∀ it ∈ pks b o xs, Here it w) (ha : (pks b o xs).Pairwise Eng.Item.Apart) :
    Ct Tryz.prog 63 #[.pointer (some ⟨b, 0, none⟩)] w (foots (pks b o xs)) (fun o' : Option (Nat × Nat) => .tuple #[slV o' xs.length, .int .i64 0]) (fun _ => True) (fun o' => own 5 1 o' xs.length (bytesV xs) :: pks b o xs) := by
  refine cu_of [_] _ Tryz.func63 rfl rfl hw ha ?_
  simp only [argSlots]
  refine goA ?_
  refine l_fact (fun w hw => (own_val (hw.item (own 5 1 o xs.length (bytesV xs)) (by simp)).1)) fun ⟨hsl, hcap⟩ => ?_
  rw [hsl]
  refine l_ctg rfl rfl (by kernel_rfl) rfl (fun w1 hw1 => clone_calls (slA o) xs.length (slC o) xs rfl (by omega) w1 (own_Rd (hw1.item (own 5 1 o xs.length (bytesV xs)) (by simp)).1)) fun x hx => ?_
  refine goA ?_
  rw [← hsl]
  exact x_ct2 x rfl rfl rfl rfl trivial (.refl _) (by simp [own_stable, pt_stable])
end Go.Proofs.YtplhamichcnmmaaGreatDoor

namespace Go.Proofs.YtplhamichcnmmaaGreatDoor
open Go.RowKit Go.Eng
set_option maxRecDepth 100000
set_option maxHeartbeats 40000000
abbrev opJ (b : Nat) (a : Option Addr) (n c e : Nat) : Eng.Item := pt b (.cells #[.slice a n c, .int .i64 e] 138 (0, 0))
def opI (b : Nat) (a : Option Addr) (c : Nat) (st : Opn) : Eng.Item := opJ b a st.1.length c (if st.2 then 3 else 0)
theorem opI_good (b : Nat) (a : Option Addr) (c : Nat) (r : Bys) : opI b a c (r, false) = opJ b a r.length c 0 := rfl
theorem opI_bad (b : Nat) (a : Option Addr) (c : Nat) (r : Bys) : opI b a c (r, true) = opJ b a r.length c 3 := rfl
theorem opI_stable (b : Nat) (a : Option Addr) (c : Nat) (st : Opn) : (opI b a c st).Stable none' := pt_stable _ _ _
def OpOk (D : Eng.Item) (a : Option Addr) (c : Nat) (r : Bys) : Prop := r.length ≤ c ∧ ∀ w, D.prop w → Rd w a (bytesV r)
theorem OpOk.drop {D : Eng.Item} {a : Option Addr} {c : Nat} {r : Bys} (h : OpOk D a c r) (n : Nat) : OpOk D (slAt a (decide (c = n)) (n * 1)) (c - n) (r.drop n) :=
  ⟨by rw [List.length_drop]; have := h.1; omega, fun w hw => by rw [bytesV_drop]; exact (h.2 w hw).drop1 n (by rw [bytesV_length]; exact h.1)⟩
theorem OpOk.front {D : Eng.Item} {a : Option Addr} {c : Nat} {r : Bys} (h : OpOk D a c r) (n : Nat) {w : World} (hw : D.prop w) : Rd w a (bytesV (r.take n)) := by
  rw [bytesV_take]; exact (h.2 w hw).take n
theorem opT_short {n : Nat} {r : Bys} (h : r.length < n) : opT n (r, false) = ([], (r, true)) := by simp [opT, h]
theorem opT_long {n : Nat} {r : Bys} (h : n ≤ r.length) : opT n (r, false) = (r.take n, (r.drop n, false)) := by simp [opT, Nat.not_lt.2 h]
theorem beV_step (bs : Bys) {k : Nat} (h : k < bs.length) : beV (bs.take (k + 1)) = beV (bs.take k) * 256 + bs[k].toNat := by
  rw [List.take_succ_eq_append_getElem h, beV_snoc]
theorem beV_small (bs : Bys) {k : Nat} (hk : k ≤ 7) : beV (bs.take k) * 256 + 255 < 18446744073709551616 := by
  have h1 := beV_lt (bs.take k)
  have h2 : (bs.take k).length ≤ 7 := by rw [List.length_take]; omega
  have h3 : 256 ^ (bs.take k).length ≤ 256 ^ 7 := Nat.pow_le_pow_right (by decide) h2
  have e : 256 ^ 7 = 72057594037927936 := by decide
  omega
theorem be_calls (a : Option Addr) (n c : Nat) (bs : Bys) (hn : bs.length = n) (h8 : n ≤ 8) (w : World) (hr : Rd w a (bytesV bs)) :
    Pu Tryz.prog 94 #[.slice a n c] w (.int .u64 (beV bs : Nat)) := by
  refine pu_of [_] Tryz.func94 rfl rfl ?_
  simp only [argSlots]
  refine goA ?_
  refine t_for (α := Nat) (fun k => [(3, .int .u64 (beV (bs.take k) : Nat)), (6, .slice a n c), (7, .int .i64 n), (8, .int .i64 k)]) (fun k => k ≤ n) (fun _ => []) (fun k => n - k) 0 ⟨rfl, rfl, rfl, rfl, trivial⟩ (Nat.zero_le _) (fun _ h => h) fun k hk => ?_
  by_cases hk2 : k < n
  · have hkb : k < bs.length := by omega
    obtain ⟨b, off, rfl, hc⟩ := hr.byte hkb
    have hst := beV_step bs hkb
    have hsm := beV_small bs (k := k) (by omega)
    have hlt := bs[k].toNat_lt
    generalize bs[k] = x at hc hst hlt
    have hor := shl_or (beV (bs.take k)) x.toNat hsm hlt
    refine goA ?_
    refine l_w rfl (v_load0 rfl rfl (fun h => h) hc) ?_
    refine goA ?_
    rw [hor, ← hst]
    refine goA ?_
    exact x_round (k + 1) ⟨rfl, rfl, rfl, rfl, trivial⟩ hk2 (fun _ h => h) (by omega)
  · obtain rfl : k = n := by omega
    have ht : bs.take k = bs := List.take_of_length_le (by omega)
    rw [ht]
    refine goA ?_
    exact x_pu rfl rfl rfl
theorem takeN_calls (b : Nat) (a : Option Addr) (c : Nat) (st : Opn) (n : Nat) (D : Eng.Item) (hsD : D.Stable none') (hD : OpOk D a c st.1) (hn : n ≤ 8) (hz : st.1.length ≤ 1000000000) (w : World) (hw : ∀ it ∈ [opI b a c st, D], Here it w) (ha : [opI b a c st, D].Pairwise Eng.Item.Apart) :
    Ct Tryz.prog 93 #[.pointer (some ⟨b, 0, none⟩), .int .i64 n, .func (.func 94) #[] #[]] w (foots [opI b a c st, D]) (fun _ : Option Addr × Nat => .int .u64 ((opN n st).1 : Nat)) (fun p => OpOk D p.1 p.2 (opN n st).2.1) (fun p => [opI b p.1 p.2 (opN n st).2, D]) := by
  obtain ⟨r, bad⟩ := st
  simp only [opN] at *
  cases bad with
  | true =>
    rw [opT_bad]
    simp only [opI_bad] at *
    refine cu_of [_, _, _] _ Tryz.func93 rfl rfl hw ha ?_
    simp only [argSlots, Nat.reduceAdd]
    refine goA ?_
    exact x_ct (a, c) rfl rfl rfl hD (.refl _) (by simp [pt_stable, hsD])
  | false =>
    by_cases hs : r.length < n
    · rw [opT_short hs]
      simp only [opI_bad, opI_good] at *
      refine cu_of [_, _, _] _ Tryz.func93 rfl rfl hw ha ?_
      simp only [argSlots, Nat.reduceAdd]
      refine goA ?_
      refine l_op rfl (o_store1 rfl rfl rfl rfl rfl rfl (by simp)) fun _ => ?_
      refine goA ?_
      exact x_ct (a, c) rfl rfl rfl hD (.refl _) (by simp [pt_stable, hsD])
    · have hl : n ≤ r.length := by omega
      have hcap := hD.1
      rw [opT_long hl]
      simp only [opI_good] at *
      refine cu_of [_, _, _] _ Tryz.func93 rfl rfl hw ha ?_
      simp only [argSlots, Nat.reduceAdd]
      refine goA ?_
      refine l_op rfl (o_store1 rfl rfl rfl rfl rfl rfl (by simp)) fun _ => ?_
      refine goA ?_
      refine l_opg rfl (o_pureF (fs := []) (cs := []) rfl (by kernel_rfl) rfl rfl rfl fun w1 hw1 => be_calls a n c (r.take n) (by rw [List.length_take]; omega) hn w1 (hD.front n (hw1.item D (by simp)).1)) fun _ => ?_
      refine goA ?_
      have e : r.length - n = (r.drop n).length := by rw [List.length_drop]
      rw [e]
      exact x_ct (_, _) rfl rfl rfl (hD.drop n) (.refl _) (by simp [pt_stable, hsD])
/-! ### Texts -/
theorem bstr_calls (a : Option Addr) (n c : Nat) (bs : Bys) (hn : bs.length = n) (w : World) (hr : Rd w a (bytesV bs)) :
    Pu Tryz.prog 96 #[.slice a n c] w (.string ⟨bs.toArray⟩) := by
  refine pu_of [_] Tryz.func96 rfl rfl ?_
  simp only [argSlots]
  refine goA ?_
  refine l_w rfl (v_bstr rfl hn.symm rfl rfl (fun w1 hw1 => hr.keep hw1)) ?_
  refine goA ?_
  exact x_pu rfl rfl rfl
theorem takeT_calls (b : Nat) (a : Option Addr) (c : Nat) (st : Opn) (n : Nat) (D : Eng.Item) (hsD : D.Stable none') (hD : OpOk D a c st.1) (hz : st.1.length ≤ 1000000000) (w : World) (hw : ∀ it ∈ [opI b a c st, D], Here it w) (ha : [opI b a c st, D].Pairwise Eng.Item.Apart) :
    Ct Tryz.prog 95 #[.pointer (some ⟨b, 0, none⟩), .int .i64 n, .func (.func 96) #[] #[]] w (foots [opI b a c st, D]) (fun _ : Option Addr × Nat => .string ⟨(opT n st).1.toArray⟩) (fun p => OpOk D p.1 p.2 (opT n st).2.1) (fun p => [opI b p.1 p.2 (opT n st).2, D]) := by
  obtain ⟨r, bad⟩ := st
  cases bad with
  | true =>
    rw [opT_bad]
    simp only [opI_bad] at *
    refine cu_of [_, _, _] _ Tryz.func95 rfl rfl hw ha ?_
    simp only [argSlots, Nat.reduceAdd]
    refine goA ?_
    exact x_ct (a, c) rfl rfl rfl hD (.refl _) (by simp [pt_stable, hsD])
  | false =>
    by_cases hs : r.length < n
    · rw [opT_short hs]
      simp only [opI_bad, opI_good] at *
      refine cu_of [_, _, _] _ Tryz.func95 rfl rfl hw ha ?_
      simp only [argSlots, Nat.reduceAdd]
      refine goA ?_
      refine l_op rfl (o_store1 rfl rfl rfl rfl rfl rfl (by simp)) fun _ => ?_
      refine goA ?_
      exact x_ct (a, c) rfl rfl rfl hD (.refl _) (by simp [pt_stable, hsD])
    · have hl : n ≤ r.length := by omega
      have hcap := hD.1
      rw [opT_long hl]
      simp only [opI_good] at *
      refine cu_of [_, _, _] _ Tryz.func95 rfl rfl hw ha ?_
      simp only [argSlots, Nat.reduceAdd]
      refine goA ?_
      refine l_op rfl (o_store1 rfl rfl rfl rfl rfl rfl (by simp)) fun _ => ?_
      refine goA ?_
      refine l_opg rfl (o_pureF (fs := []) (cs := []) rfl (by kernel_rfl) rfl rfl rfl fun w1 hw1 => bstr_calls a n c (r.take n) (by rw [List.length_take]; omega) w1 (hD.front n (hw1.item D (by simp)).1)) fun _ => ?_
      refine goA ?_
      have e : r.length - n = (r.drop n).length := by rw [List.length_drop]
      rw [e]
      exact x_ct (_, _) rfl rfl rfl (hD.drop n) (.refl _) (by simp [pt_stable, hsD])
theorem takeM_calls (b : Nat) (a : Option Addr) (c : Nat) (st : Opn) (D : Eng.Item) (hsD : D.Stable none') (hD : OpOk D a c st.1) (w : World) (hw : ∀ it ∈ [opI b a c st, D], Here it w) (ha : [opI b a c st, D].Pairwise Eng.Item.Apart) :
    Ct Tryz.prog 95 #[.pointer (some ⟨b, 0, none⟩), .int .i64 (-1), .func (.func 96) #[] #[]] w (foots [opI b a c st, D]) (fun _ : Unit => .string ⟨#[]⟩) (fun _ => True) (fun _ => [opI b a c (st.1, true), D]) := by
  obtain ⟨r, bad⟩ := st
  cases bad with
  | true =>
    simp only [opI_bad] at *
    refine cu_of [_, _, _] _ Tryz.func95 rfl rfl hw ha ?_
    simp only [argSlots, Nat.reduceAdd]
    refine goA ?_
    exact x_ct () rfl rfl rfl trivial (.refl _) (by simp [pt_stable, hsD])
  | false =>
    simp only [opI_bad, opI_good] at *
    refine cu_of [_, _, _] _ Tryz.func95 rfl rfl hw ha ?_
    simp only [argSlots, Nat.reduceAdd]
    refine goA ?_
    refine l_op rfl (o_store1 rfl rfl rfl rfl rfl rfl (by simp)) fun _ => ?_
    refine goA ?_
    exact x_ct () rfl rfl rfl trivial (.refl _) (by simp [pt_stable, hsD])
/-! ### Hashes -/
theorem oTake_calls (b : Nat) (a : Option Addr) (c : Nat) (st : Opn) (n : Nat) (D : Eng.Item) (hsD : D.Stable none') (hD : OpOk D a c st.1) (hn : n = 1 ∨ n = 2 ∨ n = 4) (hz : st.1.length ≤ 1000000000) (w : World) (hw : ∀ it ∈ [opI b a c st, D], Here it w) (ha : [opI b a c st, D].Pairwise Eng.Item.Apart) :
    Ct Tryz.prog 44 #[.pointer (some ⟨b, 0, none⟩), .int .i64 n] w (foots [opI b a c st, D]) (fun _ : Option Addr × Nat => .int .u64 ((opN n st).1 : Nat)) (fun p => OpOk D p.1 p.2 (opN n st).2.1) (fun p => [opI b p.1 p.2 (opN n st).2, D]) := by
  refine cu_of [_, _] _ Tryz.func44 rfl rfl hw ha ?_
  simp only [argSlots, Nat.reduceAdd]
  refine goA ?_
  refine l_opg rfl (o_pure rfl (by kernel_rfl) rfl (fun w1 hw1 => wide_calls n (by omega) w1)) fun _ => ?_
  refine goA ?_
  refine l_opg rfl (o_cu (pre := [opI b a c st, D]) rfl (by kernel_rfl) rfl (by simp [opI_stable, hsD]) (fun w1 hw1 hh1 ha1 => takeN_calls b a c st n D hsD hD (by omega) hz w1 hh1 ha1)) fun ⟨x, hx⟩ => ?_
  refine goA ?_
  exact x_ct x rfl rfl rfl hx (.refl _) (by simp [opI_stable, hsD])
theorem oText_calls (b : Nat) (a : Option Addr) (c : Nat) (st : Opn) (n : Nat) (D : Eng.Item) (hsD : D.Stable none') (hD : OpOk D a c st.1) (hz : st.1.length ≤ 1000000000) (w : World) (hw : ∀ it ∈ [opI b a c st, D], Here it w) (ha : [opI b a c st, D].Pairwise Eng.Item.Apart) :
    Ct Tryz.prog 45 #[.pointer (some ⟨b, 0, none⟩), .int .i64 n] w (foots [opI b a c st, D]) (fun _ : Option Addr × Nat => .string ⟨(opT n st).1.toArray⟩) (fun p => OpOk D p.1 p.2 (opT n st).2.1) (fun p => [opI b p.1 p.2 (opT n st).2, D]) := by
  refine cu_of [_, _] _ Tryz.func45 rfl rfl hw ha ?_
  simp only [argSlots, Nat.reduceAdd]
  refine goA ?_
  refine l_opg rfl (o_cu (pre := [opI b a c st, D]) rfl (by kernel_rfl) rfl (by simp [opI_stable, hsD]) (fun w1 hw1 hh1 ha1 => takeT_calls b a c st n D hsD hD hz w1 hh1 ha1)) fun ⟨x, hx⟩ => ?_
  refine goA ?_
  exact x_ct x rfl rfl rfl hx (.refl _) (by simp [opI_stable, hsD])
theorem oTextM_calls (b : Nat) (a : Option Addr) (c : Nat) (st : Opn) (D : Eng.Item) (hsD : D.Stable none') (hD : OpOk D a c st.1) (w : World) (hw : ∀ it ∈ [opI b a c st, D], Here it w) (ha : [opI b a c st, D].Pairwise Eng.Item.Apart) :
    Ct Tryz.prog 45 #[.pointer (some ⟨b, 0, none⟩), .int .i64 (-1)] w (foots [opI b a c st, D]) (fun _ : Unit => .string ⟨#[]⟩) (fun _ => True) (fun _ => [opI b a c (st.1, true), D]) := by
  refine cu_of [_, _] _ Tryz.func45 rfl rfl hw ha ?_
  simp only [argSlots, Nat.reduceAdd]
  refine goA ?_
  refine l_opg rfl (o_cu (pre := [opI b a c st, D]) rfl (by kernel_rfl) rfl (by simp [opI_stable, hsD]) (fun w1 hw1 hh1 ha1 => takeM_calls b a c st D hsD hD w1 hh1 ha1)) fun ⟨x, hx⟩ => ?_
  refine goA ?_
  exact x_ct x rfl rfl rfl hx (.refl _) (by simp [opI_stable, hsD])
theorem left_calls (b : Nat) (a : Option Addr) (c : Nat) (st : Opn) (w : World) (hw : Here (opI b a c st) w) : Pu Tryz.prog 46 #[.pointer (some ⟨b, 0, none⟩)] w (.int .i64 st.1.length) := by
  refine pu_of [_] Tryz.func46 rfl rfl ?_
  simp only [argSlots]
  refine goA ?_
  refine l_w rfl (v_load0 rfl rfl (fun h => h) (cell_pt hw.1 rfl)) ?_
  refine goA ?_
  exact x_pu rfl rfl rfl
theorem err_calls (b : Nat) (a : Option Addr) (c : Nat) (st : Opn) (w : World) (hw : Here (opI b a c st) w) : Pu Tryz.prog 97 #[.pointer (some ⟨b, 0, none⟩)] w (.int .i64 ((if st.2 then 3 else 0 : Nat) : Int)) := by
  refine pu_of [_] Tryz.func97 rfl rfl ?_
  simp only [argSlots]
  refine goA ?_
  refine l_w rfl (v_load0 rfl rfl (fun h => h) (cell_pt hw.1 rfl)) ?_
  refine goA ?_
  exact x_pu rfl rfl rfl
theorem end_calls (b : Nat) (a : Option Addr) (c : Nat) (st : Opn) (w : World) (hw : Here (opI b a c st) w) : Pu Tryz.prog 47 #[.pointer (some ⟨b, 0, none⟩)] w (.int .i64 ((if st = ([], false) then 0 else 3 : Nat) : Int)) := by
  refine pu_of [_] Tryz.func47 rfl rfl ?_
  simp only [argSlots]
  refine goA ?_
  refine l_opg rfl (o_pure rfl (by kernel_rfl) rfl (fun w1 hw1 => err_calls b a c st w1 (hw.fr hw1.fr))) fun _ => ?_
  obtain ⟨r, bad⟩ := st
  cases bad with
  | true =>
    simp only [if_true, show ¬ (r, true) = (([], false) : Opn) from fun h => (by cases h), if_false]
    refine goA ?_
    exact x_pu rfl rfl rfl
  | false =>
    simp only [if_neg Bool.false_ne_true]
    refine goA ?_
    refine l_opg rfl (o_pure rfl (by kernel_rfl) rfl (fun w1 hw1 => left_calls b a c (r, false) w1 (hw.fr hw1.fr))) fun _ => ?_
    cases r with
    | nil =>
      simp only [if_true, List.length_nil]
      refine goA ?_
      exact x_pu rfl rfl rfl
    | cons x r =>
      simp only [show ¬ (x :: r, false) = (([], false) : Opn) from fun h => (by cases h), if_false, List.length_cons]
      refine goA ?_
      exact x_pu rfl rfl rfl
theorem Of_calls (a : Option Addr) (n c : Nat) (bs : Bys) (hn : bs.length = n) (hz : n ≤ 1000000000) (w : World) (hr : Rd w a (bytesV bs)) :
    Ct Tryz.prog 42 #[.slice a n c] w none' (fun p : Nat × Option (Nat × Nat) => .pointer (some ⟨p.1, 0, none⟩)) (fun p => OpOk (own 5 1 p.2 n (bytesV bs)) (slA p.2) (slC p.2) bs) (fun p => [opI p.1 (slA p.2) (slC p.2) (bs, false), own 5 1 p.2 n (bytesV bs)]) := by
  refine ct_of [_] Tryz.func42 rfl rfl ?_
  simp only [argSlots]
  refine goA ?_
  refine l_ctg rfl rfl (by kernel_rfl) rfl (fun w1 hw1 => clone_calls a n c bs hn hz w1 (hr.keep hw1)) fun x hx => ?_
  refine l_fact (fun w hw => (own_val (hw.item (own 5 1 x n (bytesV bs)) (by simp)).1)) fun ⟨hsl, hcap⟩ => ?_
  rw [hsl]
  refine goA ?_
  refine l_boxa rfl rfl fun b hb => ?_
  refine goA ?_
  subst hn
  exact x_ct (b, x) rfl rfl rfl ⟨hcap, fun w hw => own_Rd hw⟩ (.refl _) (by simp [own_stable, opI_stable])
end Go.Proofs.YtplhamichcnmmaaGreatDoor
