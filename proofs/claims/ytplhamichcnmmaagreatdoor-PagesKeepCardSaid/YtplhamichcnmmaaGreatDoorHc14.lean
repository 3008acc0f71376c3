/- strings.Builder's methods, written on behind String. -/
/- strings.Repeat of one byte that is 0. -/
/- package sheet: how many sheets; a sheet's sector. -/
import Derived.Test.YtplhamichcnmmaaGreatDoorHc13
import Derived.Test.YtplhamichcnmmaaGreatDoorHc11
namespace Go.Proofs.YtplhamichcnmmaaGreatDoor
open Go.RowKit Go.Eng
set_option maxRecDepth 100000
set_option maxHeartbeats 40000000
abbrev bldI (b : Nat) (p : Option Addr) (o : Option (Nat × Nat)) (n : Nat) : Eng.Item := pt b (.cells #[.pointer p, slV o n] 173 (0, 0))
theorem copyCheck_calls (b : Nat) (p : Option Addr) (o : Option (Nat × Nat)) (n : Nat) (hp : p = none ∨ p = some ⟨b, 0, none⟩) (w : World) (hw : Here (bldI b p o n) w) :
    Ct Tryz.prog 137 #[.pointer (some ⟨b, 0, none⟩)] w (foots [bldI b p o n]) (fun _ : Unit => .tuple #[]) (fun _ => True) (fun _ => [bldI b (some ⟨b, 0, none⟩) o n]) := by
  unfold bldI at *
  refine cu_of [_] [_] Tryz.func137 rfl rfl (by simpa using hw) (.cons (fun _ h => by cases h) .nil) ?_
  simp only [argSlots]
  refine goA ?_
  rcases hp with rfl | rfl
  · refine goA ?_
    refine l_w rfl (v_toUns rfl rfl rfl rfl (.head _) (by simp)) ?_
    refine goA ?_
    refine l_w rfl (v_ext Tryz.func148 (by kernel_rfl) (by kernel_rfl) (by kernel_rfl) (by kernel_rfl) rfl (fun w => Lib.run_noEscape w _)) ?_
    refine goA ?_
    refine l_w rfl (v_ofUns rfl rfl rfl rfl (.head _) (by kernel_rfl)) ?_
    refine goA ?_
    refine l_op rfl (o_store1 rfl rfl rfl rfl rfl rfl (by simp)) fun _ => ?_
    refine goA ?_
    exact x_ct0N () rfl rfl trivial (.refl _) (by simp [pt_stable])
  · refine goA ?_
    exact x_ct0N () rfl rfl trivial (.refl _) (by simp [pt_stable])
theorem growI_calls (b : Nat) (n : Nat) (hn : n ≤ 140737488355328) (w : World) (hw : Here (bldI b (some ⟨b, 0, none⟩) none 0) w) :
    Ct Tryz.prog 164 #[.pointer (some ⟨b, 0, none⟩), .int .i64 n] w (foots [bldI b (some ⟨b, 0, none⟩) none 0]) (fun _ : Nat × Nat => .tuple #[]) (fun _ => True) (fun o => [bldI b (some ⟨b, 0, none⟩) (some o) 0, own 5 1 (some o) 0 []]) := by
  refine cu_of [_, _] [_] Tryz.func164 rfl rfl (by simpa using hw) (.cons (fun _ h => by cases h) .nil) ?_
  simp only [argSlots, Nat.reduceAdd]
  unfold bldI
  refine goA ?_
  refine t_drawp (by kernel_rfl) ?_
  refine goE ?_
  refine d_opg 8 ⟨by kernel_rfl, by decide⟩ rfl rfl (o_mnz (t := 50) (e := 5) rfl Tryz.func171 (by kernel_rfl) (by kernel_rfl) (by kernel_rfl) (by kernel_rfl) (by kernel_rfl) rfl rfl (by omega)) (fun _ _ h => goH h) fun ⟨⟨b2, cs⟩, h2, h3⟩ => ?_
  refine goE ?_
  refine d_end (by kernel_rfl) ?_
  refine goA ?_
  refine l_op rfl (o_copyr (cs := []) (cur := cs.toList) rfl rfl rfl rfl rfl (by simp) (fun _ _ => .inl rfl) (fun _ => rfl) (by simp) rfl) fun _ => ?_
  rw [put_nil]
  refine goA ?_
  refine l_op rfl (ho_perm (bring1 _ _ _) (o_store1 rfl rfl rfl rfl rfl rfl (by simp))) fun _ => ?_
  refine goA ?_
  refine x_imp (fun w hw => ((hw.perm (bring1 _ _ _)).ownOf (n := 0) (c := cs.size) (sz := 1) (Nat.zero_le _) h3 (by simp)).perm (bring1 _ _ _)) ?_
  rw [Nat.zero_mul, List.take_zero]
  exact x_ct0N (b2, cs.size) rfl rfl trivial (.refl _) (by simp [pt_stable, own_stable])
theorem grow_calls (b : Nat) (n : Nat) (h0 : 0 < n) (hn : n ≤ 140737488355328) (w : World) (hw : Here (bldI b none none 0) w) :
    Ct Tryz.prog 146 #[.pointer (some ⟨b, 0, none⟩), .int .i64 n] w (foots [bldI b none none 0]) (fun _ : Nat × Nat => .tuple #[]) (fun _ => True) (fun o => [bldI b (some ⟨b, 0, none⟩) (some o) 0, own 5 1 (some o) 0 []]) := by
  refine cu_of [_, _] [_] Tryz.func146 rfl rfl (by simpa using hw) (.cons (fun _ h => by cases h) .nil) ?_
  simp only [argSlots, Nat.reduceAdd]
  unfold bldI
  refine goA ?_
  refine l_opg rfl (o_cu (pre := [bldI b none none 0]) rfl (by kernel_rfl) rfl (by first | (simp [pt_stable, own_stable, mp_stable]; done) | (intro it hm; (iterate 6 (all_goals try (rcases hm with _ | ⟨_, hm⟩))) <;> first | exact bundle_stable _ | exact pt_stable _ _ _ | exact own_stable _ _ _ _ _ _)) (fun w1 hw1 hh1 ha1 => copyCheck_calls b _ none 0 (.inl rfl) w1 (hh1 _ (.head _)))) fun ⟨x, hx⟩ => ?_
  unfold bldI
  refine goA ?_
  (refine t_drawp (by kernel_rfl) ?_; refine goE ?_; refine d_end (by kernel_rfl) ?_)
  refine goA ?_
  refine l_opg rfl (o_cu (pre := [bldI b (some ⟨b, 0, none⟩) none 0]) rfl (by kernel_rfl) rfl (by first | (simp [pt_stable, own_stable, mp_stable]; done) | (intro it hm; (iterate 6 (all_goals try (rcases hm with _ | ⟨_, hm⟩))) <;> first | exact bundle_stable _ | exact pt_stable _ _ _ | exact own_stable _ _ _ _ _ _)) (fun w1 hw1 hh1 ha1 => growI_calls b n hn w1 (hh1 _ (.head _)))) fun ⟨x, hx⟩ => ?_
  refine goA ?_
  exact x_ct0N x rfl rfl trivial (.refl _) (by simp [pt_stable, own_stable])
abbrev blS (b : Nat) (p : Option Addr) (o : Option (Nat × Nat)) (s : Bys) : List Eng.Item := [bldI b p o s.length, ownF 5 o s.length (bytesV s)]
theorem bwrite_calls (b : Nat) (p : Option Addr) (hp : p = none ∨ p = some ⟨b, 0, none⟩) (o : Option (Nat × Nat)) (t s : Bys) (hn : t.length + s.length ≤ 140737488355328) (w : World) (hw : ∀ it ∈ blS b p o t, Here it w) (ha : (blS b p o t).Pairwise Eng.Item.Apart) :
    Ct Tryz.prog 123 #[.pointer (some ⟨b, 0, none⟩), .string ⟨s.toArray⟩] w (foots (blS b p o t)) (fun _ : Option (Nat × Nat) => .tuple #[.int .i64 s.length, .nilIface]) (fun _ => True) (fun o' => blS b (some ⟨b, 0, none⟩) o' (t ++ s)) := by
  refine cu_of [_, _] _ Tryz.func123 rfl rfl hw ha ?_
  simp only [argSlots, Nat.reduceAdd]
  have hsl := bal s
  unfold blS bldI
  refine goA ?_
  refine l_opg rfl (o_cu (pre := [bldI b p o t.length]) rfl (by kernel_rfl) rfl (by first | (simp [pt_stable, own_stable, mp_stable]; done) | (intro it hm; (iterate 6 (all_goals try (rcases hm with _ | ⟨_, hm⟩))) <;> first | exact bundle_stable _ | exact pt_stable _ _ _ | exact own_stable _ _ _ _ _ _)) (fun w1 hw1 hh1 ha1 => copyCheck_calls b p o t.length hp w1 (hh1 _ (.head _)))) fun ⟨x, hx⟩ => ?_
  unfold bldI
  refine goA ?_
  refine l_op rfl (ho_perm (bring1 _ _ _) (o_appstrF rfl rfl rfl rfl rfl rfl (by rw [hsl]; exact hn))) fun o' => ?_
  refine goA ?_
  refine l_op rfl (ho_perm (bring1 _ _ _) (o_store1 rfl rfl rfl rfl (slV_cells _ _) (slV_one _ _) (by simp))) fun _ => ?_
  refine goA ?_
  have e1 : t.length + (⟨s.toArray⟩ : ByteArray).size = (t ++ s).length := by rw [hsl, List.length_append]
  have e2 : bytesV t ++ bytesV (⟨s.toArray⟩ : ByteArray).data.toList = bytesV (t ++ s) := by rw [bytesV_app]
  rw [e1, e2]
  exact x_ct2 o' rfl rfl rfl (by rw [hsl]) trivial (.refl _) (by simp [pt_stable, ownF_stable])
theorem ownF_some {w : World} {e : TypeId} {o : Option (Nat × Nat)} {s : Bys} (h : (ownF e o s.length (bytesV s)).prop w) (h0 : s ≠ []) : ∃ b c, o = some (b, c) ∧ s.length ≤ c := by
  rcases h.2 with ⟨h1, h2⟩ | ⟨b, c, cur, fz, hv, -, -, -, h2, -⟩
  · exact absurd (List.eq_nil_of_length_eq_zero h2) h0
  · match o, hv with
    | none, hv => cases hv
    | some (b', c'), hv => cases hv; exact ⟨_, _, rfl, h2⟩
theorem bstring_calls (b : Nat) (p : Option Addr) (o : Option (Nat × Nat)) (s : Bys) (h0 : s ≠ []) (w : World) (hw : ∀ it ∈ blS b p o s, Here it w) (ha : (blS b p o s).Pairwise Eng.Item.Apart) :
    Ct Tryz.prog 124 #[.pointer (some ⟨b, 0, none⟩)] w (foots (blS b p o s)) (fun _ : Unit => .string ⟨s.toArray⟩) (fun _ => True) (fun _ => blS b p o s) := by
  obtain ⟨ob, oc, rfl, hoc⟩ := ownF_some (hw _ (.tail _ (.head _))).1 h0
  refine cu_of [_] _ Tryz.func124 rfl rfl hw ha ?_
  simp only [argSlots]
  have hsl := bal s
  have hlp : 0 < s.length := by cases s with | nil => exact absurd rfl h0 | cons a l => simp
  unfold blS bldI
  refine goA ?_
  refine t_perm (bring1 _ _ _) (t_drawt (by kernel_rfl) ?_)
  refine goE ?_
  refine d_opg 4 ⟨by kernel_rfl, by decide⟩ rfl rfl (o_val rfl (v_usd rfl (by omega))) (fun _ _ h => goH h) fun _ => ?_
  refine goE ?_
  refine d_opg 10 ⟨by kernel_rfl, by decide⟩ rfl rfl (o_ustrF (s := ⟨s.toArray⟩) rfl rfl rfl rfl (by kernel_rfl) hlp hsl.symm) (fun _ _ h => goH h) fun _ => ?_
  refine goE ?_
  refine d_end (by kernel_rfl) ?_
  refine goA ?_
  refine x_pick [1, 0] rfl rfl ?_
  exact x_ct () rfl rfl rfl trivial (.refl _) (by simp [pt_stable, ownF_stable])
theorem blen_calls (b : Nat) (p : Option Addr) (o : Option (Nat × Nat)) (s : Bys) (w : World) (hw : ∀ it ∈ blS b p o s, Here it w) :
    Pu Tryz.prog 147 #[.pointer (some ⟨b, 0, none⟩)] w (.int .i64 s.length) := by
  refine pu_of [_] Tryz.func147 rfl rfl ?_
  simp only [argSlots]
  have hvv : ∃ a c, slV o s.length = .slice a s.length c := by
    rcases (hw _ (.tail _ (.head _))).1.2 with ⟨h1, h2⟩ | ⟨b, c, cur, fz, hv, -⟩
    · rw [h1, h2]; exact ⟨_, _, rfl⟩
    · exact ⟨_, _, hv⟩
  obtain ⟨va, vc, hv⟩ := hvv
  refine goA ?_
  refine l_w rfl (v_load (v := slV o s.length) rfl rfl (fun w' hw' => cell_pt (i := 1) (((hw _ (.head _)).keep hw').1) rfl)) ?_
  rw [hv]
  refine goA ?_
  exact x_pu rfl rfl rfl
theorem breset_calls (b : Nat) (p : Option Addr) (o : Option (Nat × Nat)) (s : Bys) (w : World) (hw : ∀ it ∈ blS b p o s, Here it w) (ha : (blS b p o s).Pairwise Eng.Item.Apart) :
    Ct Tryz.prog 125 #[.pointer (some ⟨b, 0, none⟩)] w (foots (blS b p o s)) (fun _ : Unit => .tuple #[]) (fun _ => True) (fun _ => blS b none none []) := by
  refine cu_of [_] _ Tryz.func125 rfl rfl hw ha ?_
  simp only [argSlots]
  unfold blS bldI
  refine goA ?_
  refine l_op rfl (o_store1 rfl rfl rfl rfl rfl rfl (by simp)) fun _ => ?_
  refine goA ?_
  refine l_op rfl (o_store1 rfl rfl rfl rfl rfl rfl (by simp)) fun _ => ?_
  refine goA ?_
  refine x_imp (m' := blS b none none []) (fun w' hw' => ?_) (x_ct0N () rfl rfl trivial (.refl _) (by simp [pt_stable, ownF_stable]))
  have h1 : Hp w _ [bldI b none none ([] : Bys).length] w' := hw'.sub (.cons_cons _ (.cons _ (.refl _)))
  have h2 : Hp w _ [own 5 1 none 0 [], bldI b none none ([] : Bys).length] w' := hp_nil1 _ _ h1
  have h3 : Hp w _ [ownF 5 none 0 [], bldI b none none ([] : Bys).length] w' := h2.imp (fun k h => h) (fun h => own_ownF h) (ownF_stable _ _ _ _ _)
  exact h3.perm (bring1 _ _ _)
end Go.Proofs.YtplhamichcnmmaaGreatDoor

namespace Go.Eng
open Go.RowKit
theorem Hp.here {w0 w : World} {F : Nat → Prop} {pre m : List Item} (h : Hp w0 F (pre ++ m) w) (hs : ∀ it ∈ pre, it.Stable none') : ∀ it ∈ pre, Here it w := fun it hm => Here.of (h.item it (List.mem_append_left _ hm)) (hs it hm)
theorem v_min3 {P : Program} {l : Slots} {H : World → Prop} {T : Array TypeId} {ty : TypeId} {x y z : Operand} {k : IntKind} {a b c : Int} {i j q : Nat} [h : NatOf a i] [h' : NatOf b j] [h'' : NatOf c q] (hx : evO l x = some (.int k a)) (hy : evO l y = some (.int k b)) (hz : evO l z = some (.int k c)) : OV P (.call ⟨.builtin .min, #[x, y, z], T⟩) ty l H (.int k (min (min i j) q : Nat)) := ov fun _ _ _ w _ => by
  obtain rfl := h.eq; obtain rfl := h'.eq; obtain rfl := h''.eq
  simp only [execOp, resolve, invoke, builtin]
  simp only [ev_of hx, ev_of hy, ev_of hz, Array.map, List.map]
  have h1 : (Builtin.min_ T ty #[.int k (i : Int), .int k (j : Int), .int k (q : Int)]).run P w = .ok (.int k ((min (min i j) q : Nat) : Int)) w := by
    simp only [Builtin.min_, List.foldlM, Builtin.min2]
    by_cases h1 : (j : Int) < i
    · by_cases h2 : (q : Int) < j
      · simp [h1, h2]; omega
      · simp [h1, h2]; omega
    · by_cases h2 : (q : Int) < i
      · simp [h1, h2]; omega
      · simp [h1, h2]; omega
  simp [ev_of hx, ev_of hy, ev_of hz, h1]
end Go.Eng
namespace Go.Proofs.YtplhamichcnmmaaGreatDoor
open Go.RowKit Go.Eng
set_option maxRecDepth 100000
set_option maxHeartbeats 40000000
theorem and32 (x : Nat) (h : x < 4294967296) : x &&& 4294967295 = x := by
  rw [show (4294967295 : Nat) = 2 ^ 32 - 1 from rfl, Nat.and_two_pow_sub_one_eq_mod]
  exact Nat.mod_eq_of_lt h
theorem mul64_calls (n : Nat) (hn : n < 65536) (w : World) : Pu Tryz.prog 162 #[.int .u64 1, .int .u64 n] w (.tuple #[.int .u64 0, .int .u64 n]) := by
  refine pu_of [_, _] Tryz.func162 rfl rfl ?_
  simp only [argSlots, Nat.reduceAdd]
  have h1 := and32 1 (by decide)
  have h2 := and32 n (by omega)
  have h3 : n / 2 ^ 32 = 0 := Nat.div_eq_of_lt (by omega)
  have e1 : 1 / 2 ^ 32 * (n &&& 4294967295) + 1 * (n &&& 4294967295) / 2 ^ 32 = 0 := by
    rw [h2, Nat.one_mul, h3]
    omega
  refine goA ?_
  rw [h1]
  refine goA ?_
  rw [e1, Nat.zero_and]
  refine goA ?_
  rw [h3]
  refine goA ?_
  refine x_pu2 rfl rfl rfl ?_
  simp
theorem mulbits_calls (n : Nat) (hn : n < 65536) (w : World) : Pu Tryz.prog 144 #[.int .u64 1, .int .u64 n] w (.tuple #[.int .u64 0, .int .u64 n]) := by
  refine pu_of [_, _] Tryz.func144 rfl rfl ?_
  simp only [argSlots, Nat.reduceAdd]
  refine goA ?_
  refine l_opg rfl (o_pure rfl (by kernel_rfl) rfl (fun w1 hw1 => mul64_calls n hn w1)) fun _ => ?_
  refine goA ?_
  exact x_pu2 rfl rfl rfl rfl
theorem repeat_calls (n : Nat) (hn : n ≤ 8192) (w : World) : Pu Tryz.prog 132 #[.string ⟨#[0]⟩, .int .i64 n] w (.string ⟨(List.replicate n (0 : UInt8)).toArray⟩) := by
  refine pu_of [_, _] Tryz.func132 rfl rfl ?_
  simp only [argSlots, Nat.reduceAdd]
  refine goA ?_
  by_cases h0 : n = 0
  · subst h0
    refine goA ?_
    exact x_pu rfl rfl rfl
  by_cases h1 : n = 1
  · subst h1
    refine goA ?_
    exact x_pu rfl rfl rfl
  have hs : (⟨#[0]⟩ : ByteArray).size = 1 := rfl
  refine goA ?_
  rw [hs]
  refine l_opg rfl (o_pure rfl (by kernel_rfl) rfl (fun w1 hw1 => mulbits_calls n (by omega) w1)) fun _ => ?_
  refine goA ?_
  have hz : ∀ h, ((⟨#[0]⟩ : ByteArray)[0]'h).toNat = 0 := fun _ => rfl
  simp only [hz]
  refine goA ?_
  refine l_alloca rfl rfl fun b9 hb9 => ?_
  refine goA ?_
  refine l_opg rfl (o_cu (pre := [bldI b9 none none 0]) rfl (by kernel_rfl) rfl (by first | (simp [pt_stable, own_stable, mp_stable]; done) | (intro it hm; (iterate 6 (all_goals try (rcases hm with _ | ⟨_, hm⟩))) <;> first | exact bundle_stable _ | exact pt_stable _ _ _ | exact own_stable _ _ _ _ _ _)) (fun w1 hw1 hh1 ha1 => grow_calls b9 n (by omega) (by omega) w1 (hh1 _ (.head _)))) fun ⟨x, hx⟩ => ?_
  obtain ⟨o0, ho0⟩ : ∃ o : Option (Nat × Nat), some x = o := ⟨_, rfl⟩
  rw [ho0]
  refine l_imp (m' := blS b9 (some ⟨b9, 0, none⟩) o0 []) (fun w' hw' => (Hp.imp (it' := ownF 5 o0 0 []) (hw'.perm (bring1 _ _ _)) (fun k h => h) (fun h => own_ownF h) (ownF_stable _ _ _ _ _)).perm (bring1 _ _ _)) ?_
  refine goA ?_
  refine l_opg rfl (o_cu (pre := blS b9 (some ⟨b9, 0, none⟩) o0 []) rfl (by kernel_rfl) rfl (by simp [pt_stable, ownF_stable]) (fun w1 hw1 hh1 ha1 => bwrite_calls b9 _ (.inr rfl) o0 [] [0] (by simp) w1 hh1 ha1)) fun ⟨x, hx⟩ => ?_
  refine goA ?_
  refine t_for (α := Nat × Option (Nat × Nat)) (fun y => [(7, .int .i64 n), (8, .int .i64 n), (9, .pointer (some ⟨b9, 0, none⟩))]) (fun y => 1 ≤ y.1 ∧ y.1 ≤ n)
    (fun y => blS b9 (some ⟨b9, 0, none⟩) y.2 (List.replicate y.1 0)) (fun y => n - y.1) (1, x) ⟨rfl, rfl, rfl, trivial⟩ ⟨Nat.le_refl _, by simp only; omega⟩ (fun w' hw' => hw') fun ⟨j, o⟩ ⟨h2, h3⟩ => ?_
  simp only at h2 h3 ⊢
  have hne : List.replicate j (0 : UInt8) ≠ [] := fun e => by have := congrArg List.length e; simp at this; omega
  have hlr : (List.replicate j (0 : UInt8)).length = j := List.length_replicate ..
  have hbr := bal (List.replicate j (0 : UInt8))
  rw [hlr] at hbr
  by_cases hj : j < n
  · refine goA ?_
    refine l_opg rfl (o_pure rfl (by kernel_rfl) rfl (fun w1 hw1 => blen_calls b9 _ o _ w1 (hw1.here (m := []) (by simp [pt_stable, ownF_stable])))) fun _ => ?_
    rw [hlr]
    refine goA ?_
    refine l_opg rfl (o_pure rfl (by kernel_rfl) rfl (fun w1 hw1 => blen_calls b9 _ o _ w1 (hw1.here (m := []) (by simp [pt_stable, ownF_stable])))) fun _ => ?_
    rw [hlr]
    refine goA ?_
    refine l_opg rfl (o_pure rfl (by kernel_rfl) rfl (fun w1 hw1 => blen_calls b9 _ o _ w1 (hw1.here (m := []) (by simp [pt_stable, ownF_stable])))) fun _ => ?_
    rw [hlr]
    refine goA ?_
    refine l_w rfl (v_min3 rfl rfl rfl) ?_
    refine goA ?_
    refine l_opg rfl (o_cu (pre := blS b9 (some ⟨b9, 0, none⟩) o (List.replicate j 0)) rfl (by kernel_rfl) rfl (by simp [pt_stable, ownF_stable]) (fun w1 hw1 hh1 ha1 => bstring_calls b9 _ o _ hne w1 hh1 ha1)) fun ⟨x, hx⟩ => ?_
    refine goA ?_
    generalize hc : min (min (n - j) j) n = c
    have hex : (⟨(List.replicate j (0 : UInt8)).toArray⟩ : ByteArray).extract 0 c = ⟨(List.replicate c (0 : UInt8)).toArray⟩ := ba_ext (by
      rw [ByteArray.data_extract]
      simp [List.extract_eq_take_drop, List.take_replicate]
      omega)
    rw [hex]
    refine l_opg rfl (o_cu (pre := blS b9 (some ⟨b9, 0, none⟩) o (List.replicate j 0)) rfl (by kernel_rfl) rfl (by simp [pt_stable, ownF_stable]) (fun w1 hw1 hh1 ha1 => bwrite_calls b9 _ (.inr rfl) o _ (List.replicate c 0) (by simp; omega) w1 hh1 ha1)) fun ⟨o', hx⟩ => ?_
    rw [List.replicate_append_replicate]
    refine goA ?_
    exact x_round (j + c, o') ⟨rfl, rfl, rfl, trivial⟩ ⟨by simp only; omega, by simp only; omega⟩ (fun w' hw' => hw') (by simp only; omega)
  · obtain rfl : j = n := by omega
    refine goA ?_
    refine l_opg rfl (o_pure rfl (by kernel_rfl) rfl (fun w1 hw1 => blen_calls b9 _ o _ w1 (hw1.here (m := []) (by simp [pt_stable, ownF_stable])))) fun _ => ?_
    rw [hlr]
    refine goA ?_
    refine l_opg rfl (o_cu (pre := blS b9 (some ⟨b9, 0, none⟩) o (List.replicate j 0)) rfl (by kernel_rfl) rfl (by simp [pt_stable, ownF_stable]) (fun w1 hw1 hh1 ha1 => bstring_calls b9 _ o _ hne w1 hh1 ha1)) fun ⟨x, hx⟩ => ?_
    refine goA ?_
    exact x_pu rfl rfl rfl
end Go.Proofs.YtplhamichcnmmaaGreatDoor

namespace Go.Proofs.YtplhamichcnmmaaGreatDoor
open Go.RowKit Go.Eng
set_option maxRecDepth 100000
set_option maxHeartbeats 40000000
theorem bequal_calls (a a' : Option Addr) (n n' c c' : Nat) (x y : Bys) (hx : x.length = n) (hy : y.length = n') (w : World) (h1 : Rd w a (bytesV x)) (h2 : Rd w a' (bytesV y)) :
    Pu Tryz.prog 136 #[.slice a n c, .slice a' n' c'] w (.bool (decide (x = y))) := by
  refine pu_of [_, _] Tryz.func136 rfl rfl ?_
  simp only [argSlots, Nat.reduceAdd]
  refine goA ?_
  refine l_w rfl (v_bstr rfl hx.symm rfl rfl (fun w1 hw1 => h1.keep hw1)) ?_
  refine goA ?_
  refine l_w rfl (v_bstr rfl hy.symm rfl rfl (fun w1 hw1 => h2.keep hw1)) ?_
  refine goA ?_
  have e : seq ⟨x.toArray⟩ ⟨y.toArray⟩ = decide (x = y) := by
    rw [seq_list, Bool.eq_iff_iff]
    simp
  rw [e]
  exact x_pu rfl rfl rfl
def needF (n : Nat) : Nat := max 1 ((n + 496) / 497)
theorem need_calls (n : Nat) (hn : n ≤ 1000000000) (w : World) : Pu Tryz.prog 74 #[.int .i64 n] w (.int .i64 (needF n : Nat)) := by
  refine pu_of [_] Tryz.func74 rfl rfl ?_
  simp only [argSlots]
  refine goA ?_
  refine l_w rfl (v_max rfl rfl) ?_
  rw [show max 0 n = n by omega]
  refine goA ?_
  refine l_w rfl (v_max rfl rfl) ?_
  refine goA ?_
  refine x_pu rfl rfl ?_
  rw [show n + 497 - 1 = n + 496 by omega]
  rfl
def rev1 (x : W32) : W32 := (x >>> 8 &&& 16711935#32) ||| ((x &&& 16711935#32) <<< 8)
def revB (x : W32) : W32 := rev1 x >>> 16 ||| rev1 x <<< 16
theorem rev_calls (x : W32) (w : World) : Pu Tryz.prog 133 #[w32 x] w (w32 (revB x)) := by
  refine pu_of [_] Tryz.func133 rfl rfl ?_
  simp only [argSlots]
  refine goW ?_
  exact x_pu rfl rfl rfl
structure Sht where
  seq : Nat
  last : Bool
  text : Bys
abbrev shtA (s : Sht) : Array Value := #[.int .u64 (s.seq : Int), .bool s.last, .string ⟨s.text.toArray⟩]
def shtH (s : Sht) : Bys := beN 8 s.seq ++ beN 1 (if s.last then 2 else 1) ++ beN 2 s.text.length ++ s.text ++ List.replicate (497 - s.text.length) 0
def shtP (s : Sht) : Bys := shtH s ++ beN 4 (revB (crcF (shtH s))).toNat
theorem shtH_len {s : Sht} (h : s.text.length ≤ 497) : (shtH s).length = 508 := by
  simp only [shtH, List.length_append, beN_length, List.length_replicate]; omega
theorem shtP_len {s : Sht} (h : s.text.length ≤ 497) : (shtP s).length = 512 := by
  rw [shtP, List.length_append, shtH_len h, beN_length]
theorem shput_calls (s : Sht) (hq : s.seq < 18446744073709551616) (ht5 : s.text.length ≤ 497) (w : World) (ht : CTab w) :
    Ct Tryz.prog 118 #[.agg (shtA s)] w none' (fun o : Option (Nat × Nat) => .tuple #[slV o 512, .int .i64 0]) (fun _ => True) (fun o => [own 5 1 o 512 (bytesV (shtP s))]) := by
  refine ct_of [_] Tryz.func118 rfl rfl ?_
  simp only [argSlots]
  have htl := bal s.text
  refine goA ?_
  refine l_boxa rfl rfl fun b1 hb1 => ?_
  refine goA ?_
  obtain ⟨kd, hkd⟩ : ∃ k, (if s.last then 2 else 1 : Nat) = k := ⟨_, rfl⟩
  have hk2 : kd < 256 := by rw [← hkd]; split <;> omega
  refine goA ?_
  refine t_join (w0 := w) (F := none') (α := Unit) (fun _ => [(1, .pointer (some ⟨b1, 0, none⟩)), (4, .int .u64 kd)]) (fun _ => True) (fun _ => [pt b1 (.cells (shtA s) 163 (0, 0))]) ?_ fun _ _ => ?_
  · cases hl : s.last with
    | true =>
      rw [hl, if_pos rfl] at hkd
      subst hkd
      refine goA ?_
      exact x_join () ⟨rfl, rfl, trivial⟩ trivial (fun w' hw' => hw')
    | false =>
      rw [hl, if_neg (by decide)] at hkd
      subst hkd
      refine goA ?_
      exact x_join () ⟨rfl, rfl, trivial⟩ trivial (fun w' hw' => hw')
  · have hX : shtH s = beN 8 s.seq ++ beN 1 kd ++ beN 2 s.text.length ++ s.text ++ List.replicate (497 - s.text.length) 0 := by rw [← hkd]; rfl
    have hXl := shtH_len  ht5
    refine goA ?_
    refine t_drawm [0] 15 rfl rfl (by kernel_rfl) ?_
    refine goE ?_
    refine d_opg 0 ⟨by kernel_rfl, by decide⟩ rfl rfl (o_ct rfl (by kernel_rfl) rfl (fun w1 hw1 => new_calls w1)) (fun _ _ h => goH h) fun ⟨b, hb⟩ => ?_
    refine goE ?_
    refine d_opg 3 ⟨by kernel_rfl, by decide⟩ rfl rfl (o_cu (pre := pks b none []) rfl (by kernel_rfl) rfl (by simp [pt_stable, own_stable]) (fun w1 hw1 hh1 ha1 => put8_calls b none [] s.seq hq (by decide) w1 hh1 ha1)) (fun _ _ h => goH h) fun ⟨o1, _⟩ => ?_
    rw [List.nil_append]
    refine goE ?_
    refine d_opg 5 ⟨by kernel_rfl, by decide⟩ rfl rfl (o_cu (pre := pks b o1 (beN 8 s.seq)) rfl (by kernel_rfl) rfl (by simp [pt_stable, own_stable]) (fun w1 hw1 hh1 ha1 => put_calls b o1 _ 1 kd (.inl rfl) (by omega) (by rw [beN_length]; decide) w1 hh1 ha1)) (fun _ _ h => goH h) fun ⟨o2, _⟩ => ?_
    refine goE ?_
    refine d_opg 10 ⟨by kernel_rfl, by decide⟩ rfl rfl (o_cu (pre := pks b o2 (beN 8 s.seq ++ beN 1 kd)) rfl (by kernel_rfl) rfl (by simp [pt_stable, own_stable]) (fun w1 hw1 hh1 ha1 => put_calls b o2 _ 2 s.text.length (.inr (.inl rfl)) (by omega) (by rw [List.length_append, beN_length, beN_length]; decide) w1 hh1 ha1)) (fun _ _ h => goH h) fun ⟨o3, _⟩ => ?_
    refine goE ?_
    refine d_opg 13 ⟨by kernel_rfl, by decide⟩ rfl rfl (o_cu (pre := pks b o3 (beN 8 s.seq ++ beN 1 kd ++ beN 2 s.text.length)) rfl (by kernel_rfl) rfl (by simp [pt_stable, own_stable]) (fun w1 hw1 hh1 ha1 => text_calls b o3 _ ⟨s.text.toArray⟩ (by rw [htl, List.length_append, List.length_append, beN_length, beN_length, beN_length]; omega) w1 hh1 ha1)) (fun _ _ h => goH h) fun ⟨o4, _⟩ => ?_
    refine goE ?_
    refine d_end (by kernel_rfl) ?_
    obtain ⟨Y, hY⟩ : ∃ Y, beN 8 s.seq ++ beN 1 kd ++ beN 2 s.text.length ++ s.text = Y := ⟨_, rfl⟩
    have hYl : Y.length = 11 + s.text.length := by rw [← hY]; simp only [List.length_append, beN_length]
    refine x_imp (m' := pks b o4 Y ++ [pt b1 (.cells (shtA s) 163 (0, 0))]) (fun w' hw' => by rw [← hY]; exact hw') ?_
    rw [hY] at hX
    have hXY : Y ++ List.replicate (497 - s.text.length) 0 = shtH s := hX.symm
    refine goA ?_
    rw [htl]
    refine l_opg rfl (o_pure rfl (by kernel_rfl) rfl (fun w1 hw1 => repeat_calls (497 - s.text.length) (by omega) w1)) fun _ => ?_
    have hrl : (⟨(List.replicate (497 - s.text.length) (0 : UInt8)).toArray⟩ : ByteArray).size = 497 - s.text.length := by rw [bal, List.length_replicate]
    refine l_opg rfl (o_cu (pre := pks b o4 Y) rfl (by kernel_rfl) rfl (by simp [pt_stable, own_stable]) (fun w1 hw1 hh1 ha1 => text_calls b o4 Y ⟨(List.replicate (497 - s.text.length) (0 : UInt8)).toArray⟩ (by rw [hrl, hYl]; omega) w1 hh1 ha1)) fun ⟨o5, _⟩ => ?_
    refine l_imp (m' := pks b o5 (shtH s)) (fun w' hw' => by rw [← hXY]; exact hw'.sub (.cons_cons _ (.cons_cons _ (.cons _ (.refl _))))) ?_
    generalize hXe : shtH s = X at hXl
    have hPe : shtP s = X ++ beN 4 (revB (crcF X)).toNat := by rw [shtP, hXe]
    rw [hPe]
    have hr32 := (revB (crcF X)).isLt
    refine goA ?_
    refine l_opg rfl (o_cu (pre := pks b o5 X) rfl (by kernel_rfl) rfl (by simp [pt_stable, own_stable]) (fun w1 hw1 hh1 ha1 => bytes_calls b o5 X (by rw [hXl]; decide) w1 hh1 ha1)) fun ⟨o6, _⟩ => ?_
    dsimp only
    refine l_fact (fun w hw => (own_val (hw.item (own 5 1 o6 X.length (bytesV X)) (.head _)).1)) fun ⟨hsl, hcap⟩ => ?_
    rw [hsl]
    refine goA ?_
    refine l_opg rfl (o_pure rfl (by kernel_rfl) rfl (fun w1 hw1 => crc_calls (slA o6) X.length (slC o6) X rfl (by omega) w1 (own_Rd (hw1.item (own 5 1 o6 X.length (bytesV X)) (.head _)).1) (ht.keep hw1))) fun _ => ?_
    refine l_opg rfl (o_pure rfl (by kernel_rfl) rfl (fun w1 hw1 => rev_calls (crcF X) w1)) fun _ => ?_
    refine goA ?_
    refine l_imp (m' := pks b o5 X) (fun w' hw' => hw'.sub (.cons _ (.cons_cons _ (.cons_cons _ (.refl _))))) ?_
    refine l_opg rfl (o_cu (pre := pks b o5 X) rfl (by kernel_rfl) rfl (by simp [pt_stable, own_stable]) (fun w1 hw1 hh1 ha1 => put_calls b o5 X 4 (revB (crcF X)).toNat (.inr (.inr rfl)) (by omega) (by rw [hXl]; decide) w1 hh1 ha1)) fun ⟨o7, _⟩ => ?_
    refine l_opg rfl (o_cu (pre := pks b o7 (X ++ beN 4 (revB (crcF X)).toNat)) rfl (by kernel_rfl) rfl (by simp [pt_stable, own_stable]) (fun w1 hw1 hh1 ha1 => bytes_calls b o7 _ (by rw [List.length_append, hXl, beN_length]; decide) w1 hh1 ha1)) fun ⟨o8, _⟩ => ?_
    have hzl : (X ++ beN 4 (revB (crcF X)).toNat).length = 512 := by rw [List.length_append, hXl, beN_length]
    dsimp only
    generalize X ++ beN 4 (revB (crcF X)).toNat = Z at hzl ⊢
    rw [hzl]
    refine goA ?_
    exact x_ct2 o8 rfl rfl rfl rfl trivial (.cons_cons _ (List.nil_sublist _)) (by simp [own_stable])
end Go.Proofs.YtplhamichcnmmaaGreatDoor
