/- package pack, the packer: what is put. -/
import Derived.Test.YtdkonngkbbgcgaaGreatDoorByt
import Derived.Test.YtdkonngkbbgcgaaGreatDoorGc
import Derived.Test.YtdkonngkbbgcgaaGreatDoorProg
namespace Go.Proofs.YtdkonngkbbgcgaaGreatDoor
open Go.RowKit Go.Eng
set_option maxRecDepth 100000
set_option maxHeartbeats 40000000
theorem clone_calls (a : Option Addr) (n c : Nat) (bs : List UInt8) (hn : bs.length = n) (hz : n ≤ 1000000000) (w : World) (hr : Rd w a (bytesV bs)) :
    Ct Tryz.prog 54 #[.slice a n c] w none' (fun o : Option (Nat × Nat) => slV o n) (fun _ => True) (fun o => [own 5 1 o n (bytesV bs)]) := by
  refine ct_of [_] Tryz.func54 rfl rfl ?_
  simp only [argSlots]
  (repeat first | with_reducible (first | apply t_seq | apply t_region | apply t_block | apply t_ret | apply t_skip | apply t_exit | apply l_nil | apply x_then | apply x_pass_exit | apply x_pass_ret | apply x_block_ret | apply x_block_normal | apply x_block_here | apply x_block_out rfl) | refine lAv rfl ?_ | refine l_no rfl ?_ | refine tT rfl rfl ?_ | refine tF rfl rfl ?_ | refine lT rfl rfl ?_ | refine lF rfl rfl ?_)
  refine l_w rfl (v_eqsn rfl rfl rfl) ?_
  cases a with
  | none =>
    have hz : bs = [] := by
      rcases hr with h | ⟨b, off, h, -⟩
      · cases bs with | nil => rfl | cons x r => simp [bytesV] at h
      · cases h
    subst hz
    subst hn
    (repeat first | with_reducible (first | apply t_seq | apply t_region | apply t_block | apply t_ret | apply t_skip | apply t_exit | apply l_nil | apply x_then | apply x_pass_exit | apply x_pass_ret | apply x_block_ret | apply x_block_normal | apply x_block_here | apply x_block_out rfl) | refine lAv rfl ?_ | refine l_no rfl ?_ | refine tT rfl rfl ?_ | refine tF rfl rfl ?_ | refine lT rfl rfl ?_ | refine lF rfl rfl ?_)
    refine x_imp (fun w hw => hp_nil1 5 1 hw) ?_
    exact x_ct none rfl rfl rfl trivial (.cons_cons _ (List.nil_sublist _)) (by simp [own_stable])
  | some a =>
    (repeat first | with_reducible (first | apply t_seq | apply t_region | apply t_block | apply t_ret | apply t_skip | apply t_exit | apply l_nil | apply x_then | apply x_pass_exit | apply x_pass_ret | apply x_block_ret | apply x_block_normal | apply x_block_here | apply x_block_out rfl) | refine lAv rfl ?_ | refine l_no rfl ?_ | refine tT rfl rfl ?_ | refine tF rfl rfl ?_ | refine lT rfl rfl ?_ | refine lF rfl rfl ?_)
    refine l_op rfl (o_build0 (e := 5) (sz := 1) rfl rfl rfl) fun ⟨b, hb⟩ => ?_
    (repeat first | with_reducible (first | apply t_seq | apply t_region | apply t_block | apply t_ret | apply t_skip | apply t_exit | apply l_nil | apply x_then | apply x_pass_exit | apply x_pass_ret | apply x_block_ret | apply x_block_normal | apply x_block_here | apply x_block_out rfl) | refine lAv rfl ?_ | refine l_no rfl ?_ | refine tT rfl rfl ?_ | refine tF rfl rfl ?_ | refine lT rfl rfl ?_ | refine lF rfl rfl ?_)
    refine l_op rfl (o_append (o := some (b, 0)) (n := 0) (news := bytesV bs) rfl rfl rfl rfl rfl rfl (by rw [bytesV_length, hn, Nat.mul_one]) (bytesV_one _) (by omega) (fun w' hw' j v hj => ?_)) fun o => ?_
    · rcases hr with h | ⟨b2, off, h, h2⟩
      · rw [h] at hj; simp at hj
      · cases h
        rw [add_at]
        exact hw'.old (fun h => h) (h2 j v hj)
    rw [Nat.zero_add, List.nil_append]
    (repeat first | with_reducible (first | apply t_seq | apply t_region | apply t_block | apply t_ret | apply t_skip | apply t_exit | apply l_nil | apply x_then | apply x_pass_exit | apply x_pass_ret | apply x_block_ret | apply x_block_normal | apply x_block_here | apply x_block_out rfl) | refine lAv rfl ?_ | refine l_no rfl ?_ | refine tT rfl rfl ?_ | refine tF rfl rfl ?_ | refine lT rfl rfl ?_ | refine lF rfl rfl ?_)
    exact x_ct o rfl rfl rfl trivial (.cons_cons _ (List.nil_sublist _)) (by simp [own_stable])
/-- A packer that has bytes. -/
abbrev pks (b : Nat) (o : Option (Nat × Nat)) (xs : List UInt8) : List Eng.Item := [own 5 1 o xs.length (bytesV xs), pt b (.cells #[slV o xs.length, .int .i64 0] 118 (0, 0))]
theorem new_calls (w : World) : Ct Tryz.prog 20 #[] w none' (fun b : Nat => .pointer (some ⟨b, 0, none⟩)) (fun _ => True) (fun b => pks b none []) := by
  refine ct_of [] Tryz.func20 rfl rfl ?_
  simp only [argSlots]
  (repeat first | with_reducible (first | apply t_seq | apply t_region | apply t_block | apply t_ret | apply t_skip | apply t_exit | apply l_nil | apply x_then | apply x_pass_exit | apply x_pass_ret | apply x_block_ret | apply x_block_normal | apply x_block_here | apply x_block_out rfl) | refine lAv rfl ?_ | refine l_no rfl ?_ | refine tT rfl rfl ?_ | refine tF rfl rfl ?_ | refine lT rfl rfl ?_ | refine lF rfl rfl ?_)
  refine l_boxa rfl rfl fun b hb => ?_
  (repeat first | with_reducible (first | apply t_seq | apply t_region | apply t_block | apply t_ret | apply t_skip | apply t_exit | apply l_nil | apply x_then | apply x_pass_exit | apply x_pass_ret | apply x_block_ret | apply x_block_normal | apply x_block_here | apply x_block_out rfl) | refine lAv rfl ?_ | refine l_no rfl ?_ | refine tT rfl rfl ?_ | refine tF rfl rfl ?_ | refine lT rfl rfl ?_ | refine lF rfl rfl ?_)
  refine x_imp (fun w hw => hp_nil1 5 1 hw) ?_
  exact x_ct b rfl rfl rfl trivial (.refl _) (by simp [own_stable, pt_stable])
theorem wide_calls (n : Nat) (h : n = 1 ∨ n = 2 ∨ n = 4 ∨ n = 8) (w : World) : Pu Tryz.prog 52 #[.int .i64 n] w (.bool true) := by
  refine pu_of [_] Tryz.func52 rfl rfl ?_
  simp only [argSlots]
  rcases h with rfl | rfl | rfl | rfl
  all_goals
    (repeat first | with_reducible (first | apply t_seq | apply t_region | apply t_block | apply t_ret | apply t_skip | apply t_exit | apply l_nil | apply x_then | apply x_pass_exit | apply x_pass_ret | apply x_block_ret | apply x_block_normal | apply x_block_here | apply x_block_out rfl) | refine lAv rfl ?_ | refine l_no rfl ?_ | refine tT rfl rfl ?_ | refine tF rfl rfl ?_ | refine lT rfl rfl ?_ | refine lF rfl rfl ?_)
    exact x_pu rfl rfl rfl
theorem puts_calls {α : Type} (b : Nat) (o : Option (Nat × Nat)) (xs bs : List UInt8) (f : FuncId) (cs : List Value) (ad : α → Addr) (cp : α → Nat) (it : α → Eng.Item) (hst : ∀ x, (it x).Stable none') (hf : hasBody Tryz.prog f = true) (hz : xs.length + bs.length ≤ 1000000000) (w : World)
    (hw : ∀ it ∈ pks b o xs, Here it w) (ha : (pks b o xs).Pairwise Eng.Item.Apart)
    (hmk : ∀ w1, Hp w (foots (pks b o xs)) (pks b o xs) w1 → Ct Tryz.prog f cs.toArray w1 none' (fun x : α => .slice (some (ad x)) bs.length (cp x)) (fun _ => True) (fun x => [it x]))
    (hrd : ∀ x w1, (it x).prop w1 → Fr (foots (pks b o xs)) w w1 → ∀ (j : Nat) (u : Value), (bytesV bs)[j]? = some u → w1.cell? ((ad x).add j) = some u) :
    Ct Tryz.prog 49 #[.pointer (some ⟨b, 0, none⟩), .bool true, .func (.func f) #[] cs.toArray] w (foots (pks b o xs)) (fun _ : Option (Nat × Nat) => .pointer (some ⟨b, 0, none⟩)) (fun _ => True) (fun o' => pks b o' (xs ++ bs)) := by
  refine cu_of [_, _, _] _ Tryz.func49 rfl rfl hw ha ?_
  simp only [argSlots, Nat.reduceAdd]
  (repeat first | with_reducible (first | apply t_seq | apply t_region | apply t_block | apply t_ret | apply t_skip | apply t_exit | apply l_nil | apply x_then | apply x_pass_exit | apply x_pass_ret | apply x_block_ret | apply x_block_normal | apply x_block_here | apply x_block_out rfl) | refine lAv rfl ?_ | refine l_no rfl ?_ | refine tT rfl rfl ?_ | refine tF rfl rfl ?_ | refine lT rfl rfl ?_ | refine lF rfl rfl ?_)
  refine t_drawm [1] 10 rfl rfl (by kernel_rfl) ?_
  (repeat first | refine dAv [] rfl rfl rfl ?_ | refine dno [] rfl rfl rfl ?_ | refine dT [] rfl rfl rfl rfl ?_ | refine dF [] rfl rfl rfl rfl ?_)
  refine d_opg 6 ⟨by kernel_rfl, by decide⟩ rfl rfl (o_ctF (fs := []) (cs := cs) rfl hf rfl rfl rfl (fun w1 hw1 => hmk w1 hw1)) (fun _ _ h => by first | exact h | exact Hp.sub h (.cons _ (.refl _)) | exact Hp.sub h (.cons _ (.cons _ (.refl _))) | exact Hp.sub h (.cons _ (.cons _ (.cons _ (.refl _)))) | exact Hp.sub h (.cons _ (.cons _ (.cons _ (.cons _ (.refl _))))) | exact Hp.sub h (.cons _ (.cons _ (.cons _ (.cons _ (.cons _ (.refl _)))))) | exact Hp.sub h (.cons _ (.cons _ (.cons _ (.cons _ (.cons _ (.cons _ (.refl _)))))))) fun ⟨x, hx⟩ => ?_
  (repeat first | refine dAv [] rfl rfl rfl ?_ | refine dno [] rfl rfl rfl ?_ | refine dT [] rfl rfl rfl rfl ?_ | refine dF [] rfl rfl rfl rfl ?_)
  refine d_opg 7 ⟨by kernel_rfl, by decide⟩ rfl rfl (ho_perm (bring1 _ _ _) (o_append (news := bytesV bs) rfl rfl rfl rfl rfl rfl (by rw [bytesV_length, Nat.mul_one]) (bytesV_one _) (by omega) (fun w' hw' j v hj => hrd x w' (hw'.item (it x) (by simp)).1 hw'.fr j v hj))) (fun _ _ h => by first | exact h | exact Hp.sub h (.cons _ (.refl _)) | exact Hp.sub h (.cons _ (.cons _ (.refl _))) | exact Hp.sub h (.cons _ (.cons _ (.cons _ (.refl _)))) | exact Hp.sub h (.cons _ (.cons _ (.cons _ (.cons _ (.refl _))))) | exact Hp.sub h (.cons _ (.cons _ (.cons _ (.cons _ (.cons _ (.refl _)))))) | exact Hp.sub h (.cons _ (.cons _ (.cons _ (.cons _ (.cons _ (.cons _ (.refl _)))))))) fun o' => ?_
  (repeat first | refine dAv [] rfl rfl rfl ?_ | refine dno [] rfl rfl rfl ?_ | refine dT [] rfl rfl rfl rfl ?_ | refine dF [] rfl rfl rfl rfl ?_)
  refine d_tail ⟨by kernel_rfl, by kernel_rfl⟩ rfl rfl (ho_perm (bring2 _ _ _ _) (o_store1 rfl rfl rfl rfl (slV_cells _ _) (slV_one _ _) (by simp))) fun _ => ?_
  rw [← bytesV_app, ← List.length_append]
  (repeat first | with_reducible (first | apply t_seq | apply t_region | apply t_block | apply t_ret | apply t_skip | apply t_exit | apply l_nil | apply x_then | apply x_pass_exit | apply x_pass_ret | apply x_block_ret | apply x_block_normal | apply x_block_here | apply x_block_out rfl) | refine lAv rfl ?_ | refine l_no rfl ?_ | refine tT rfl rfl ?_ | refine tF rfl rfl ?_ | refine lT rfl rfl ?_ | refine lF rfl rfl ?_)
  refine x_pick [1, 0] rfl rfl ?_
  exact x_ct o' rfl rfl rfl trivial (.refl _) (by simp [own_stable, pt_stable])
theorem out_of {w0 w : World} {F : Nat → Prop} {pre m : List Eng.Item} (hw : Hp w0 F (pre ++ m) w) {b : Nat} {o : Obj} (hm : pt b o ∈ m) : ¬ foots pre b := fun ⟨it, h1, h2⟩ => (List.pairwise_append.1 hw.apart).2.2 it h1 _ hm b h2 rfl
/-! ### Text -/
theorem textF_calls (bx : Nat) (s : ByteArray) (w : World) (hc : w.cell? ⟨bx, 0, none⟩ = some (.string s)) :
    Ct Tryz.prog 50 #[.pointer (some ⟨bx, 0, none⟩)] w none' (fun p : Nat × Nat => .slice (some ⟨p.1, 0, none⟩) s.data.toList.length p.2) (fun _ => True) (fun p => [strRow 5 s.data.toList p.1 p.2]) := by
  refine ct_of [_] Tryz.func50 rfl rfl ?_
  simp only [argSlots]
  (repeat first | with_reducible (first | apply t_seq | apply t_region | apply t_block | apply t_ret | apply t_skip | apply t_exit | apply l_nil | apply x_then | apply x_pass_exit | apply x_pass_ret | apply x_block_ret | apply x_block_normal | apply x_block_here | apply x_block_out rfl) | refine lAv rfl ?_ | refine l_no rfl ?_ | refine tT rfl rfl ?_ | refine tF rfl rfl ?_ | refine lT rfl rfl ?_ | refine lF rfl rfl ?_)
  refine l_w rfl (v_load0 rfl rfl (fun h => h) hc) ?_
  refine l_op rfl (o_strb rfl rfl rfl rfl) fun ⟨p, h1, h2⟩ => ?_
  (repeat first | with_reducible (first | apply t_seq | apply t_region | apply t_block | apply t_ret | apply t_skip | apply t_exit | apply l_nil | apply x_then | apply x_pass_exit | apply x_pass_ret | apply x_block_ret | apply x_block_normal | apply x_block_here | apply x_block_out rfl) | refine lAv rfl ?_ | refine l_no rfl ?_ | refine tT rfl rfl ?_ | refine tF rfl rfl ?_ | refine lT rfl rfl ?_ | refine lF rfl rfl ?_)
  rw [ba_size]
  exact x_ct p rfl rfl rfl trivial (.cons_cons _ (List.nil_sublist _)) (by simp [pt_stable])
theorem text_calls (b : Nat) (o : Option (Nat × Nat)) (xs : List UInt8) (s : ByteArray) (hz : xs.length + s.size ≤ 1000000000) (w : World) (hw : ∀ it ∈ pks b o xs, Here it w) (ha : (pks b o xs).Pairwise Eng.Item.Apart) :
    Ct Tryz.prog 21 #[.pointer (some ⟨b, 0, none⟩), .string s] w (foots (pks b o xs)) (fun _ : Option (Nat × Nat) => .pointer (some ⟨b, 0, none⟩)) (fun _ => True) (fun o' => pks b o' (xs ++ s.data.toList)) := by
  refine cu_of [_, _] _ Tryz.func21 rfl rfl hw ha ?_
  simp only [argSlots, Nat.reduceAdd]
  (repeat first | with_reducible (first | apply t_seq | apply t_region | apply t_block | apply t_ret | apply t_skip | apply t_exit | apply l_nil | apply x_then | apply x_pass_exit | apply x_pass_ret | apply x_block_ret | apply x_block_normal | apply x_block_here | apply x_block_out rfl) | refine lAv rfl ?_ | refine l_no rfl ?_ | refine tT rfl rfl ?_ | refine tF rfl rfl ?_ | refine lT rfl rfl ?_ | refine lF rfl rfl ?_)
  refine l_box1 rfl rfl rfl fun bx hbx => ?_
  (repeat first | with_reducible (first | apply t_seq | apply t_region | apply t_block | apply t_ret | apply t_skip | apply t_exit | apply l_nil | apply x_then | apply x_pass_exit | apply x_pass_ret | apply x_block_ret | apply x_block_normal | apply x_block_here | apply x_block_out rfl) | refine lAv rfl ?_ | refine l_no rfl ?_ | refine tT rfl rfl ?_ | refine tF rfl rfl ?_ | refine lT rfl rfl ?_ | refine lF rfl rfl ?_)
  refine l_w rfl (v_mkf rfl) ?_
  refine l_perm (bring2 _ _ _ _) ?_
  refine l_perm (bring2 _ _ _ _) ?_
  refine l_opg rfl (o_cu (pre := [own _ _ _ _ _, pt b _]) rfl (by kernel_rfl) rfl (by simp [pt_stable, own_stable, mp_stable]) (fun w1 hw1 hh1 ha1 => puts_calls b o xs s.data.toList 50 [.pointer (some ⟨bx, 0, none⟩)] (fun p : Nat × Nat => ⟨p.1, 0, none⟩) (fun p => p.2) (fun p => strRow 5 s.data.toList p.1 p.2) (fun p => pt_stable _ _ _) (by kernel_rfl) (by rw [ba_size]; exact hz) w1 hh1 ha1 (fun w2 hw2 => textF_calls bx s w2 (hw2.old (out_of hw1 (.head _)) (cell_pt (hw1.get (.tail _ (.tail _ (.head _)))) rfl))) (fun p w2 hp _ j v hj => by rw [add_at, Nat.zero_add]; have := strRow_at hp j v hj; rwa [Nat.zero_add] at this))) fun ⟨x, hx⟩ => ?_
  (repeat first | with_reducible (first | apply t_seq | apply t_region | apply t_block | apply t_ret | apply t_skip | apply t_exit | apply l_nil | apply x_then | apply x_pass_exit | apply x_pass_ret | apply x_block_ret | apply x_block_normal | apply x_block_here | apply x_block_out rfl) | refine lAv rfl ?_ | refine l_no rfl ?_ | refine tT rfl rfl ?_ | refine tF rfl rfl ?_ | refine lT rfl rfl ?_ | refine lF rfl rfl ?_)
  exact x_ct x rfl rfl rfl trivial (.cons_cons _ (.cons_cons _ (List.nil_sublist _))) (by simp [own_stable, pt_stable])
/-! ### Hash -/
theorem hashF_calls (bx : Nat) (w : World) : Pu Tryz.prog 51 #[.pointer (some ⟨bx, 0, none⟩)] w (.slice (some ⟨bx, 0, none⟩) 32 32) := by
  refine pu_of [_] Tryz.func51 rfl rfl ?_
  simp only [argSlots]
  (repeat first | with_reducible (first | apply t_seq | apply t_region | apply t_block | apply t_ret | apply t_skip | apply t_exit | apply l_nil | apply x_then | apply x_pass_exit | apply x_pass_ret | apply x_block_ret | apply x_block_normal | apply x_block_here | apply x_block_out rfl) | refine lAv rfl ?_ | refine l_no rfl ?_ | refine tT rfl rfl ?_ | refine tF rfl rfl ?_ | refine lT rfl rfl ?_ | refine lF rfl rfl ?_)
  refine l_w rfl (v_slarr rfl rfl rfl rfl) ?_
  (repeat first | with_reducible (first | apply t_seq | apply t_region | apply t_block | apply t_ret | apply t_skip | apply t_exit | apply l_nil | apply x_then | apply x_pass_exit | apply x_pass_ret | apply x_block_ret | apply x_block_normal | apply x_block_here | apply x_block_out rfl) | refine lAv rfl ?_ | refine l_no rfl ?_ | refine tT rfl rfl ?_ | refine tF rfl rfl ?_ | refine lT rfl rfl ?_ | refine lF rfl rfl ?_)
  exact x_pu rfl rfl rfl
theorem hash_calls (b : Nat) (o : Option (Nat × Nat)) (xs h : List UInt8) (hl : h.length = 32) (hz : xs.length ≤ 900000000) (w : World) (hw : ∀ it ∈ pks b o xs, Here it w) (ha : (pks b o xs).Pairwise Eng.Item.Apart) :
    Ct Tryz.prog 22 #[.pointer (some ⟨b, 0, none⟩), hashV h] w (foots (pks b o xs)) (fun _ : Option (Nat × Nat) => .pointer (some ⟨b, 0, none⟩)) (fun _ => True) (fun o' => pks b o' (xs ++ h)) := by
  refine cu_of [_, _] _ Tryz.func22 rfl rfl hw ha ?_
  simp only [argSlots, Nat.reduceAdd]
  unfold hashV
  (repeat first | with_reducible (first | apply t_seq | apply t_region | apply t_block | apply t_ret | apply t_skip | apply t_exit | apply l_nil | apply x_then | apply x_pass_exit | apply x_pass_ret | apply x_block_ret | apply x_block_normal | apply x_block_here | apply x_block_out rfl) | refine lAv rfl ?_ | refine l_no rfl ?_ | refine tT rfl rfl ?_ | refine tF rfl rfl ?_ | refine lT rfl rfl ?_ | refine lF rfl rfl ?_)
  refine l_boxa rfl rfl fun bx hbx => ?_
  (repeat first | with_reducible (first | apply t_seq | apply t_region | apply t_block | apply t_ret | apply t_skip | apply t_exit | apply l_nil | apply x_then | apply x_pass_exit | apply x_pass_ret | apply x_block_ret | apply x_block_normal | apply x_block_here | apply x_block_out rfl) | refine lAv rfl ?_ | refine l_no rfl ?_ | refine tT rfl rfl ?_ | refine tF rfl rfl ?_ | refine lT rfl rfl ?_ | refine lF rfl rfl ?_)
  refine l_w rfl (v_mkf rfl) ?_
  refine l_perm (bring2 _ _ _ _) ?_
  refine l_perm (bring2 _ _ _ _) ?_
  refine l_opg rfl (o_cu (pre := [own _ _ _ _ _, pt b _]) rfl (by kernel_rfl) rfl (by simp [pt_stable, own_stable, mp_stable]) (fun w1 hw1 hh1 ha1 => puts_calls b o xs h 51 [.pointer (some ⟨bx, 0, none⟩)] (fun _ : Unit => ⟨bx, 0, none⟩) (fun _ => 32) (fun _ => own 5 1 none 0 []) (fun _ => own_stable _ _ _ _ _ _) (by kernel_rfl) (by omega) w1 hh1 ha1 (fun w2 hw2 => by rw [hl]; exact pu_ct (hashF_calls bx w2)) (fun _ w2 _ hf j v hj => by rw [add_at]; exact rangeAt_fr (rangeAt_pt (hw1.get (b := bx) (.tail _ (.tail _ (.head _))))) (out_of hw1 (.head _)) hf j v hj))) fun ⟨x, hx⟩ => ?_
  (repeat first | with_reducible (first | apply t_seq | apply t_region | apply t_block | apply t_ret | apply t_skip | apply t_exit | apply l_nil | apply x_then | apply x_pass_exit | apply x_pass_ret | apply x_block_ret | apply x_block_normal | apply x_block_here | apply x_block_out rfl) | refine lAv rfl ?_ | refine l_no rfl ?_ | refine tT rfl rfl ?_ | refine tF rfl rfl ?_ | refine lT rfl rfl ?_ | refine lF rfl rfl ?_)
  exact x_ct x rfl rfl rfl trivial (.cons_cons _ (.cons_cons _ (List.nil_sublist _))) (by simp [own_stable, pt_stable])
/-! ### Put -/
theorem beN_at : ∀ (w n k : Nat), k < w → (beN w n)[k]? = some (UInt8.ofNat (n / 256 ^ (w - 1 - k)))
  | 0, _, _, h => by omega
  | w + 1, n, k, h => by
    rw [beN]
    by_cases hk : k < w
    · rw [List.getElem?_append_left (by rw [beN_length]; exact hk), beN_at w (n / 256) k hk, Nat.div_div_eq_div_mul, show w + 1 - 1 - k = (w - 1 - k) + 1 by omega, Nat.pow_succ, Nat.mul_comm]
    · obtain rfl : k = w := by omega
      rw [List.getElem?_append_right (by rw [beN_length]; omega), beN_length, show k + 1 - 1 - k = 0 by omega, Nat.sub_self]
      simp
theorem beN_take {w n k : Nat} (h : k < w) : (beN w n).take (k + 1) = (beN w n).take k ++ [UInt8.ofNat (n / 256 ^ (w - 1 - k))] := by
  rw [List.take_add_one, beN_at w n k h]; rfl
theorem pow256 (j : Nat) : 2 ^ (8 * j) = 256 ^ j := by rw [Nat.pow_mul]
theorem putF_calls (b4 b5 wd n : Nat) (h : 1 ≤ wd ∧ wd ≤ 8) (w : World) (h4 : w.cell? ⟨b4, 0, none⟩ = some (.int .i64 wd)) (h5 : w.cell? ⟨b5, 0, none⟩ = some (.int .u64 n)) :
    Ct Tryz.prog 53 #[.pointer (some ⟨b4, 0, none⟩), .pointer (some ⟨b5, 0, none⟩)] w none' (fun p : Nat × Nat => .slice (some ⟨p.1, 0, none⟩) wd p.2) (fun _ => True) (fun p => [own 5 1 (some p) wd (bytesV (beN wd n))]) := by
  refine ct_of [_, _] Tryz.func53 rfl rfl ?_
  simp only [argSlots, Nat.reduceAdd]
  (repeat first | with_reducible (first | apply t_seq | apply t_region | apply t_block | apply t_ret | apply t_skip | apply t_exit | apply l_nil | apply x_then | apply x_pass_exit | apply x_pass_ret | apply x_block_ret | apply x_block_normal | apply x_block_here | apply x_block_out rfl) | refine lAv rfl ?_ | refine l_no rfl ?_ | refine tT rfl rfl ?_ | refine tF rfl rfl ?_ | refine lT rfl rfl ?_ | refine lF rfl rfl ?_)
  refine l_w rfl (v_load0 rfl rfl (fun h => h) h4) ?_
  (repeat first | with_reducible (first | apply t_seq | apply t_region | apply t_block | apply t_ret | apply t_skip | apply t_exit | apply l_nil | apply x_then | apply x_pass_exit | apply x_pass_ret | apply x_block_ret | apply x_block_normal | apply x_block_here | apply x_block_out rfl) | refine lAv rfl ?_ | refine l_no rfl ?_ | refine tT rfl rfl ?_ | refine tF rfl rfl ?_ | refine lT rfl rfl ?_ | refine lF rfl rfl ?_)
  refine t_for (α := Nat × Option (Nat × Nat)) (fun y => [(0, .pointer (some ⟨b4, 0, none⟩)), (1, .pointer (some ⟨b5, 0, none⟩)), (3, slV y.2 y.1), (4, .int .i64 ((wd : Int) - 1 - y.1))]) (fun y => y.1 ≤ wd) (fun y => [own 5 1 y.2 y.1 (bytesV ((beN wd n).take y.1))]) (fun y => wd - y.1) (0, none) ⟨rfl, rfl, rfl, by show some (Value.int .i64 (((wd - 1 : Nat) : Int))) = some (Value.int .i64 ((wd : Int) - 1 - (0 : Nat))); congr 2; omega, trivial⟩ (Nat.zero_le _) (fun w' hw' => hp_nil1 5 1 hw') fun ⟨k, o⟩ hk => ?_
  simp only at hk ⊢
  by_cases hk2 : k < wd
  · obtain ⟨j, hj⟩ : ∃ j : Nat, (wd : Int) - 1 - k = j := ⟨wd - 1 - k, by omega⟩
    rw [hj]
    have hjw : wd - 1 - k = j := by omega
    have hj8 : j ≤ 7 := by omega
    (repeat first | with_reducible (first | apply t_seq | apply t_region | apply t_block | apply t_ret | apply t_skip | apply t_exit | apply l_nil | apply x_then | apply x_pass_exit | apply x_pass_ret | apply x_block_ret | apply x_block_normal | apply x_block_here | apply x_block_out rfl) | refine lAv rfl ?_ | refine l_no rfl ?_ | refine tT rfl rfl ?_ | refine tF rfl rfl ?_ | refine lT rfl rfl ?_ | refine lF rfl rfl ?_)
    refine l_w rfl (v_load0 rfl rfl (fun h => h) h5) ?_
    (repeat first | with_reducible (first | apply t_seq | apply t_region | apply t_block | apply t_ret | apply t_skip | apply t_exit | apply l_nil | apply x_then | apply x_pass_exit | apply x_pass_ret | apply x_block_ret | apply x_block_normal | apply x_block_here | apply x_block_out rfl) | refine lAv rfl ?_ | refine l_no rfl ?_ | refine tT rfl rfl ?_ | refine tF rfl rfl ?_ | refine lT rfl rfl ?_ | refine lF rfl rfl ?_)
    refine l_w rfl (v_cvM rfl rfl rfl) ?_
    have hb : (Value.int .u8 ((n / 2 ^ (8 * j) % 256 : Nat) : Int)) = .int .u8 ((UInt8.ofNat (n / 256 ^ j)).toNat : Int) := by rw [pow256]; simp
    rw [hb]
    refine l_op rfl (o_buildslice rfl rfl rfl rfl rfl rfl) fun ⟨bq, hbq⟩ => ?_
    (repeat first | with_reducible (first | apply t_seq | apply t_region | apply t_block | apply t_ret | apply t_skip | apply t_exit | apply l_nil | apply x_then | apply x_pass_exit | apply x_pass_ret | apply x_block_ret | apply x_block_normal | apply x_block_here | apply x_block_out rfl) | refine lAv rfl ?_ | refine l_no rfl ?_ | refine tT rfl rfl ?_ | refine tF rfl rfl ?_ | refine lT rfl rfl ?_ | refine lF rfl rfl ?_)
    refine l_op rfl (ho_perm (bring1 _ _ _) (o_append (news := bytesV [UInt8.ofNat (n / 256 ^ j)]) rfl rfl rfl rfl rfl rfl rfl rfl (by omega) (fun w' hw' i v hi => by rw [add_at, Nat.zero_add]; exact own_rd (hw'.item _ (.tail _ (.head _))).1 i v hi))) fun o' => ?_
    (repeat first | with_reducible (first | apply t_seq | apply t_region | apply t_block | apply t_ret | apply t_skip | apply t_exit | apply l_nil | apply x_then | apply x_pass_exit | apply x_pass_ret | apply x_block_ret | apply x_block_normal | apply x_block_here | apply x_block_out rfl) | refine lAv rfl ?_ | refine l_no rfl ?_ | refine tT rfl rfl ?_ | refine tF rfl rfl ?_ | refine lT rfl rfl ?_ | refine lF rfl rfl ?_)
    refine l_w rfl (v_subI rfl rfl (by omega)) ?_
    (repeat first | with_reducible (first | apply t_seq | apply t_region | apply t_block | apply t_ret | apply t_skip | apply t_exit | apply l_nil | apply x_then | apply x_pass_exit | apply x_pass_ret | apply x_block_ret | apply x_block_normal | apply x_block_here | apply x_block_out rfl) | refine lAv rfl ?_ | refine l_no rfl ?_ | refine tT rfl rfl ?_ | refine tF rfl rfl ?_ | refine lT rfl rfl ?_ | refine lF rfl rfl ?_)
    refine x_round (k + 1, o') ⟨rfl, rfl, rfl, by show some (Value.int .i64 ((j : Int) - 1)) = some (Value.int .i64 ((wd : Int) - 1 - ((k + 1 : Nat) : Int))); congr 2; omega, trivial⟩ hk2 (fun w' hw' => ?_) (by simp only; omega)
    rw [beN_take hk2, hjw, bytesV_app]
    exact hw'.sub (.cons_cons _ (List.nil_sublist _))
  · obtain rfl : k = wd := by omega
    (repeat first | with_reducible (first | apply t_seq | apply t_region | apply t_block | apply t_ret | apply t_skip | apply t_exit | apply l_nil | apply x_then | apply x_pass_exit | apply x_pass_ret | apply x_block_ret | apply x_block_normal | apply x_block_here | apply x_block_out rfl) | refine lAv rfl ?_ | refine l_no rfl ?_ | refine tT rfl rfl ?_ | refine tF rfl rfl ?_ | refine lT rfl rfl ?_ | refine lF rfl rfl ?_)
    have ht : (beN k n).take k = beN k n := List.take_of_length_le (by rw [beN_length]; exact Nat.le_refl _)
    rw [ht]
    match o with
    | none => exact x_fact (fun w hw => show False by have h1 : k = 0 := (hw.item _ (.head _)).1.2; omega) fun h => h.elim
    | some o => exact x_ct o rfl rfl rfl trivial (.refl _) (by simp [own_stable])
theorem put_calls (b : Nat) (o : Option (Nat × Nat)) (xs : List UInt8) (wd n : Nat) (hd : wd = 1 ∨ wd = 2 ∨ wd = 4) (hn : n < 256 ^ wd) (hz : xs.length ≤ 900000000) (w : World) (hw : ∀ it ∈ pks b o xs, Here it w) (ha : (pks b o xs).Pairwise Eng.Item.Apart) :
    Ct Tryz.prog 23 #[.pointer (some ⟨b, 0, none⟩), .int .i64 wd, .int .u64 n] w (foots (pks b o xs)) (fun _ : Option (Nat × Nat) => .pointer (some ⟨b, 0, none⟩)) (fun _ => True) (fun o' => pks b o' (xs ++ beN wd n)) := by
  refine cu_of [_, _, _] _ Tryz.func23 rfl rfl hw ha ?_
  simp only [argSlots, Nat.reduceAdd]
  have hd8 : 1 ≤ wd ∧ wd ≤ 8 := by omega
  have hne : ¬ (wd : Int) = 8 := by omega
  have hsh : n / 2 ^ (8 * min 7 wd) = 0 := by
    rw [show min 7 wd = wd by omega, pow256]
    exact Nat.div_eq_of_lt hn
  have h7 : 8 * min 7 wd < 64 := by omega
  (repeat first | with_reducible (first | apply t_seq | apply t_region | apply t_block | apply t_ret | apply t_skip | apply t_exit | apply l_nil | apply x_then | apply x_pass_exit | apply x_pass_ret | apply x_block_ret | apply x_block_normal | apply x_block_here | apply x_block_out rfl) | refine lAv rfl ?_ | refine l_no rfl ?_ | refine tT rfl rfl ?_ | refine tF rfl rfl ?_ | refine lT rfl rfl ?_ | refine lF rfl rfl ?_)
  refine l_box1 rfl rfl rfl fun b4 hb4 => ?_
  (repeat first | with_reducible (first | apply t_seq | apply t_region | apply t_block | apply t_ret | apply t_skip | apply t_exit | apply l_nil | apply x_then | apply x_pass_exit | apply x_pass_ret | apply x_block_ret | apply x_block_normal | apply x_block_here | apply x_block_out rfl) | refine lAv rfl ?_ | refine l_no rfl ?_ | refine tT rfl rfl ?_ | refine tF rfl rfl ?_ | refine lT rfl rfl ?_ | refine lF rfl rfl ?_)
  refine l_box1 rfl rfl rfl fun b5 hb5 => ?_
  (repeat first | with_reducible (first | apply t_seq | apply t_region | apply t_block | apply t_ret | apply t_skip | apply t_exit | apply l_nil | apply x_then | apply x_pass_exit | apply x_pass_ret | apply x_block_ret | apply x_block_normal | apply x_block_here | apply x_block_out rfl) | refine lAv rfl ?_ | refine l_no rfl ?_ | refine tT rfl rfl ?_ | refine tF rfl rfl ?_ | refine lT rfl rfl ?_ | refine lF rfl rfl ?_)
  refine l_opg rfl (o_pure rfl (by kernel_rfl) rfl (fun w1 hw1 => wide_calls wd (by omega) w1)) fun _ => ?_
  (repeat first | with_reducible (first | apply t_seq | apply t_region | apply t_block | apply t_ret | apply t_skip | apply t_exit | apply l_nil | apply x_then | apply x_pass_exit | apply x_pass_ret | apply x_block_ret | apply x_block_normal | apply x_block_here | apply x_block_out rfl) | refine lAv rfl ?_ | refine l_no rfl ?_ | refine tT rfl rfl ?_ | refine tF rfl rfl ?_ | refine lT rfl rfl ?_ | refine lF rfl rfl ?_)
  refine l_w rfl (v_min rfl rfl) ?_
  (repeat first | with_reducible (first | apply t_seq | apply t_region | apply t_block | apply t_ret | apply t_skip | apply t_exit | apply l_nil | apply x_then | apply x_pass_exit | apply x_pass_ret | apply x_block_ret | apply x_block_normal | apply x_block_here | apply x_block_out rfl) | refine lAv rfl ?_ | refine l_no rfl ?_ | refine tT rfl rfl ?_ | refine tF rfl rfl ?_ | refine lT rfl rfl ?_ | refine lF rfl rfl ?_)
  rw [hsh]
  (repeat first | with_reducible (first | apply t_seq | apply t_region | apply t_block | apply t_ret | apply t_skip | apply t_exit | apply l_nil | apply x_then | apply x_pass_exit | apply x_pass_ret | apply x_block_ret | apply x_block_normal | apply x_block_here | apply x_block_out rfl) | refine lAv rfl ?_ | refine l_no rfl ?_ | refine tT rfl rfl ?_ | refine tF rfl rfl ?_ | refine lT rfl rfl ?_ | refine lF rfl rfl ?_)
  refine l_w rfl (v_mkf rfl) ?_
  refine l_pick [2, 3, 1, 0] rfl rfl ?_
  refine l_opg rfl (o_cu (pre := [own _ _ _ _ _, pt b _]) rfl (by kernel_rfl) rfl (by simp [pt_stable, own_stable, mp_stable]) (fun w1 hw1 hh1 ha1 => puts_calls b o xs (beN wd n) 53 [.pointer (some ⟨b4, 0, none⟩), .pointer (some ⟨b5, 0, none⟩)] (fun p : Nat × Nat => ⟨p.1, 0, none⟩) (fun p => p.2) (fun p => own 5 1 (some p) wd (bytesV (beN wd n))) (fun p => own_stable _ _ _ _ _ _) (by kernel_rfl) (by rw [beN_length]; omega) w1 hh1 ha1 (fun w2 hw2 => by rw [beN_length]; exact putF_calls b4 b5 wd n hd8 w2 (hw2.old (out_of hw1 (.head _)) (cell_pt (hw1.get (.tail _ (.tail _ (.head _)))) rfl)) (hw2.old (out_of hw1 (.tail _ (.head _))) (cell_pt (hw1.get (.tail _ (.tail _ (.tail _ (.head _))))) rfl))) (fun p w2 hp _ j v hj => by rw [add_at, Nat.zero_add]; exact own_rd hp j v hj))) fun ⟨x, hx⟩ => ?_
  (repeat first | with_reducible (first | apply t_seq | apply t_region | apply t_block | apply t_ret | apply t_skip | apply t_exit | apply l_nil | apply x_then | apply x_pass_exit | apply x_pass_ret | apply x_block_ret | apply x_block_normal | apply x_block_here | apply x_block_out rfl) | refine lAv rfl ?_ | refine l_no rfl ?_ | refine tT rfl rfl ?_ | refine tF rfl rfl ?_ | refine lT rfl rfl ?_ | refine lF rfl rfl ?_)
  exact x_ct x rfl rfl rfl trivial (.cons_cons _ (.cons_cons _ (List.nil_sublist _))) (by simp [own_stable, pt_stable])
/-! ### Name -/
theorem nameF_calls (bx : Nat) (s : ByteArray) (hs : s.size < 256) (w : World) (hc : w.cell? ⟨bx, 0, none⟩ = some (.string s)) :
    Ct Tryz.prog 91 #[.pointer (some ⟨bx, 0, none⟩)] w none' (fun p : Nat × Nat => .slice (some ⟨p.1, 0, none⟩) (1 + s.size) p.2) (fun _ => True) (fun p => [own 5 1 (some p) (1 + s.size) (bytesV (beN 1 s.size ++ s.data.toList))]) := by
  refine ct_of [_] Tryz.func91 rfl rfl ?_
  simp only [argSlots]
  (repeat first | with_reducible (first | apply t_seq | apply t_region | apply t_block | apply t_ret | apply t_skip | apply t_exit | apply l_nil | apply x_then | apply x_pass_exit | apply x_pass_ret | apply x_block_ret | apply x_block_normal | apply x_block_here | apply x_block_out rfl) | refine lAv rfl ?_ | refine l_no rfl ?_ | refine tT rfl rfl ?_ | refine tF rfl rfl ?_ | refine lT rfl rfl ?_ | refine lF rfl rfl ?_)
  refine l_w rfl (v_load0 rfl rfl (fun h => h) hc) ?_
  (repeat first | with_reducible (first | apply t_seq | apply t_region | apply t_block | apply t_ret | apply t_skip | apply t_exit | apply l_nil | apply x_then | apply x_pass_exit | apply x_pass_ret | apply x_block_ret | apply x_block_normal | apply x_block_here | apply x_block_out rfl) | refine lAv rfl ?_ | refine l_no rfl ?_ | refine tT rfl rfl ?_ | refine tF rfl rfl ?_ | refine lT rfl rfl ?_ | refine lF rfl rfl ?_)
  have hb : (Value.int .u8 (s.size : Int)) = .int .u8 ((UInt8.ofNat s.size).toNat : Int) := by simp; omega
  rw [hb]
  refine l_op rfl (o_buildslice rfl rfl rfl rfl rfl rfl) fun ⟨bq, hbq⟩ => ?_
  (repeat first | with_reducible (first | apply t_seq | apply t_region | apply t_block | apply t_ret | apply t_skip | apply t_exit | apply l_nil | apply x_then | apply x_pass_exit | apply x_pass_ret | apply x_block_ret | apply x_block_normal | apply x_block_here | apply x_block_out rfl) | refine lAv rfl ?_ | refine l_no rfl ?_ | refine tT rfl rfl ?_ | refine tF rfl rfl ?_ | refine lT rfl rfl ?_ | refine lF rfl rfl ?_)
  refine l_w rfl (v_load0 rfl rfl (fun h => h) hc) ?_
  refine l_op rfl (o_appstr (o := some (bq, 1)) rfl rfl rfl rfl rfl rfl (by omega)) fun o' => ?_
  (repeat first | with_reducible (first | apply t_seq | apply t_region | apply t_block | apply t_ret | apply t_skip | apply t_exit | apply l_nil | apply x_then | apply x_pass_exit | apply x_pass_ret | apply x_block_ret | apply x_block_normal | apply x_block_here | apply x_block_out rfl) | refine lAv rfl ?_ | refine l_no rfl ?_ | refine tT rfl rfl ?_ | refine tF rfl rfl ?_ | refine lT rfl rfl ?_ | refine lF rfl rfl ?_)
  match o' with
  | none => exact x_fact (fun w hw => show False by have h1 : 1 + s.size = 0 := (hw.item _ (.head _)).1.2; omega) fun h => h.elim
  | some o =>
    exact x_ct o rfl rfl rfl trivial (.refl _) (by simp [own_stable])
theorem name_calls (b : Nat) (o : Option (Nat × Nat)) (xs : List UInt8) (s : ByteArray) (hs : s.size < 256) (hz : xs.length ≤ 900000000) (w : World) (hw : ∀ it ∈ pks b o xs, Here it w) (ha : (pks b o xs).Pairwise Eng.Item.Apart) :
    Ct Tryz.prog 82 #[.pointer (some ⟨b, 0, none⟩), .string s] w (foots (pks b o xs)) (fun _ : Option (Nat × Nat) => .pointer (some ⟨b, 0, none⟩)) (fun _ => True) (fun o' => pks b o' (xs ++ (beN 1 s.size ++ s.data.toList))) := by
  refine cu_of [_, _] _ Tryz.func82 rfl rfl hw ha ?_
  simp only [argSlots, Nat.reduceAdd]
  have hl : (beN 1 s.size ++ s.data.toList).length = 1 + s.size := by rw [List.length_append, beN_length, ba_size]
  (repeat first | with_reducible (first | apply t_seq | apply t_region | apply t_block | apply t_ret | apply t_skip | apply t_exit | apply l_nil | apply x_then | apply x_pass_exit | apply x_pass_ret | apply x_block_ret | apply x_block_normal | apply x_block_here | apply x_block_out rfl) | refine lAv rfl ?_ | refine l_no rfl ?_ | refine tT rfl rfl ?_ | refine tF rfl rfl ?_ | refine lT rfl rfl ?_ | refine lF rfl rfl ?_)
  refine l_box1 rfl rfl rfl fun bx hbx => ?_
  (repeat first | with_reducible (first | apply t_seq | apply t_region | apply t_block | apply t_ret | apply t_skip | apply t_exit | apply l_nil | apply x_then | apply x_pass_exit | apply x_pass_ret | apply x_block_ret | apply x_block_normal | apply x_block_here | apply x_block_out rfl) | refine lAv rfl ?_ | refine l_no rfl ?_ | refine tT rfl rfl ?_ | refine tF rfl rfl ?_ | refine lT rfl rfl ?_ | refine lF rfl rfl ?_)
  refine l_say 8 _ (.bool true) rfl (by rw [decide_eq_true]; omega) ?_
  refine l_w rfl (v_mkf rfl) ?_
  refine l_perm (bring2 _ _ _ _) ?_
  refine l_perm (bring2 _ _ _ _) ?_
  refine l_opg rfl (o_cu (pre := [own _ _ _ _ _, pt b _]) rfl (by kernel_rfl) rfl (by simp [pt_stable, own_stable, mp_stable]) (fun w1 hw1 hh1 ha1 => puts_calls b o xs (beN 1 s.size ++ s.data.toList) 91 [.pointer (some ⟨bx, 0, none⟩)] (fun p : Nat × Nat => ⟨p.1, 0, none⟩) (fun p => p.2) (fun p => own 5 1 (some p) (1 + s.size) (bytesV (beN 1 s.size ++ s.data.toList))) (fun p => own_stable _ _ _ _ _ _) (by kernel_rfl) (by rw [hl]; omega) w1 hh1 ha1 (fun w2 hw2 => by rw [hl]; exact nameF_calls bx s hs w2 (hw2.old (out_of hw1 (.head _)) (cell_pt (hw1.get (.tail _ (.tail _ (.head _)))) rfl))) (fun p w2 hp _ j v hj => by rw [add_at, Nat.zero_add]; exact own_rd hp j v hj))) fun ⟨x, hx⟩ => ?_
  (repeat first | with_reducible (first | apply t_seq | apply t_region | apply t_block | apply t_ret | apply t_skip | apply t_exit | apply l_nil | apply x_then | apply x_pass_exit | apply x_pass_ret | apply x_block_ret | apply x_block_normal | apply x_block_here | apply x_block_out rfl) | refine lAv rfl ?_ | refine l_no rfl ?_ | refine tT rfl rfl ?_ | refine tF rfl rfl ?_ | refine lT rfl rfl ?_ | refine lF rfl rfl ?_)
  exact x_ct x rfl rfl rfl trivial (.cons_cons _ (.cons_cons _ (List.nil_sublist _))) (by simp [own_stable, pt_stable])
/-! ### Bytes -/
theorem bytes_calls (b : Nat) (o : Option (Nat × Nat)) (xs : List UInt8) (hz : xs.length ≤ 900000000) (w : World) (hw : ∀ it ∈ pks b o xs, Here it w) (ha : (pks b o xs).Pairwise Eng.Item.Apart) :
    Ct Tryz.prog 24 #[.pointer (some ⟨b, 0, none⟩)] w (foots (pks b o xs)) (fun o' : Option (Nat × Nat) => .tuple #[slV o' xs.length, .int .i64 0]) (fun _ => True) (fun o' => own 5 1 o' xs.length (bytesV xs) :: pks b o xs) := by
  refine cu_of [_] _ Tryz.func24 rfl rfl hw ha ?_
  simp only [argSlots]
  (repeat first | with_reducible (first | apply t_seq | apply t_region | apply t_block | apply t_ret | apply t_skip | apply t_exit | apply l_nil | apply x_then | apply x_pass_exit | apply x_pass_ret | apply x_block_ret | apply x_block_normal | apply x_block_here | apply x_block_out rfl) | refine lAv rfl ?_ | refine l_no rfl ?_ | refine tT rfl rfl ?_ | refine tF rfl rfl ?_ | refine lT rfl rfl ?_ | refine lF rfl rfl ?_)
  refine l_fact (fun w hw => (own_val (hw.item (own 5 1 o xs.length (bytesV xs)) (by simp)).1)) fun ⟨hsl, hcap⟩ => ?_
  rw [hsl]
  refine l_ctg rfl rfl (by kernel_rfl) rfl (fun w1 hw1 => clone_calls (slA o) xs.length (slC o) xs rfl (by omega) w1 (own_Rd (hw1.item (own 5 1 o xs.length (bytesV xs)) (by simp)).1)) fun x hx => ?_
  (repeat first | with_reducible (first | apply t_seq | apply t_region | apply t_block | apply t_ret | apply t_skip | apply t_exit | apply l_nil | apply x_then | apply x_pass_exit | apply x_pass_ret | apply x_block_ret | apply x_block_normal | apply x_block_here | apply x_block_out rfl) | refine lAv rfl ?_ | refine l_no rfl ?_ | refine tT rfl rfl ?_ | refine tF rfl rfl ?_ | refine lT rfl rfl ?_ | refine lF rfl rfl ?_)
  rw [← hsl]
  exact x_ct2 x rfl rfl rfl rfl trivial (.refl _) (by simp [own_stable, pt_stable])
end Go.Proofs.YtdkonngkbbgcgaaGreatDoor
