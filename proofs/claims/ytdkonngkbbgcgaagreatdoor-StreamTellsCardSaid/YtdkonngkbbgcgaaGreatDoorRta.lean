/- The document's numbers, openers and checksum (armariumref01, armariumref02), walked. -/
import Derived.Test.YtdkonngkbbgcgaaGreatDoorSto
namespace Go.Proofs.YtdkonngkbbgcgaaGreatDoor
open Go.RowKit Go.Eng
set_option maxRecDepth 100000
set_option maxHeartbeats 40000000
theorem beN_front : ∀ (i n : Nat), beN (i + 1) n = UInt8.ofNat (n / 256 ^ i) :: beN i n
  | 0, n => by simp [beN]
  | i + 1, n => by
    rw [beN, beN_front i (n / 256), beN, List.cons_append, Nat.div_div_eq_div_mul, Nat.pow_succ, Nat.mul_comm]
theorem num_calls (wd n : Nat) (hw : wd = 1 ∨ wd = 2 ∨ wd = 4 ∨ wd = 8) (hn : n < 18446744073709551616) (w : World) :
    Pu Tryz.prog 64 #[.int .i64 wd, .int .u64 n] w (.tuple #[.string ⟨(beN wd n).toArray⟩, .bool ((((n / 256 ^ wd : Nat) : Int)) == 0)]) := by
  refine pu_of [_, _] Tryz.func64 rfl rfl ?_
  simp only [argSlots, Nat.reduceAdd]
  have h8 : wd ≤ 8 := by omega
  (repeat first | with_reducible (first | apply t_seq | apply t_region | apply t_block | apply t_ret | apply t_skip | apply t_exit | apply l_nil | apply x_then | apply x_pass_exit | apply x_pass_ret | apply x_block_ret | apply x_block_normal | apply x_block_here | apply x_block_out rfl) | refine lAv rfl ?_ | refine l_no rfl ?_ | refine tT rfl rfl ?_ | refine tF rfl rfl ?_ | refine lT rfl rfl ?_ | refine lF rfl rfl ?_)
  rcases hw with hw | hw | hw | hw
  all_goals
    (repeat first | with_reducible (first | apply t_seq | apply t_region | apply t_block | apply t_ret | apply t_skip | apply t_exit | apply l_nil | apply x_then | apply x_pass_exit | apply x_pass_ret | apply x_block_ret | apply x_block_normal | apply x_block_here | apply x_block_out rfl) | refine lAv rfl ?_ | refine l_no rfl ?_ | refine tT rfl rfl ?_ | refine tF rfl rfl ?_ | refine lT rfl rfl ?_ | refine lF rfl rfl ?_)
    refine t_for (α := Nat) (fun i => [(0, .int .i64 wd), (1, .int .u64 (n / 256 ^ i : Nat)), (6, .string ⟨(beN i n).toArray⟩), (7, .int .i64 i)]) (fun i => i ≤ wd) (fun _ => []) (fun i => wd - i) 0 ⟨rfl, by rw [Nat.pow_zero, Nat.div_one]; rfl, rfl, rfl, trivial⟩ (Nat.zero_le _) (fun w' hw' => hw') fun i hi => ?_
    by_cases hi2 : i < wd
    · have hlt : n / 256 ^ i < 18446744073709551616 := Nat.lt_of_le_of_lt (Nat.div_le_self _ _) hn
      have hfr := beN_front i n
      have hnx : n / 256 ^ (i + 1) = n / 256 ^ i / 256 := by rw [Nat.pow_succ, Nat.div_div_eq_div_mul]
      have hbl := ba_len (beN i n)
      rw [beN_length] at hbl
      generalize n / 256 ^ i = q at hlt hfr hnx ⊢
      have hq8 : (UInt8.ofNat q).toNat = q % 256 := by simp
      have h1 : (⟨[UInt8.ofNat q].toArray⟩ : ByteArray).size = 1 := rfl
      (repeat first | with_reducible (first | apply t_seq | apply t_region | apply t_block | apply t_ret | apply t_skip | apply t_exit | apply l_nil | apply x_then | apply x_pass_exit | apply x_pass_ret | apply x_block_ret | apply x_block_normal | apply x_block_here | apply x_block_out rfl) | refine lAv rfl ?_ | refine l_no rfl ?_ | refine tT rfl rfl ?_ | refine tF rfl rfl ?_ | refine lT rfl rfl ?_ | refine lF rfl rfl ?_)
      refine l_say 29 _ (.int .u8 ((UInt8.ofNat q).toNat : Int)) rfl (by rw [hq8]) ?_
      refine l_op rfl (o_buildslice rfl rfl rfl rfl rfl rfl) fun ⟨bq, hbq⟩ => ?_
      refine l_w rfl (v_bstr (bs := [UInt8.ofNat q]) rfl rfl rfl rfl (fun w' hw' => own_Rd (o := some (bq, 1)) (hw'.item _ (.head _)).1)) ?_
      refine l_w rfl (v_move rfl) ?_
      refine l_w rfl (v_adds rfl rfl (by rw [hbl, h1]; omega)) ?_
      refine l_say 33 _ (.string ⟨(beN (i + 1) n).toArray⟩) rfl (congrArg Value.string (by rw [hfr]; exact ba_ext (by simp))) ?_
      (repeat first | with_reducible (first | apply t_seq | apply t_region | apply t_block | apply t_ret | apply t_skip | apply t_exit | apply l_nil | apply x_then | apply x_pass_exit | apply x_pass_ret | apply x_block_ret | apply x_block_normal | apply x_block_here | apply x_block_out rfl) | refine lAv rfl ?_ | refine l_no rfl ?_ | refine tT rfl rfl ?_ | refine tF rfl rfl ?_ | refine lT rfl rfl ?_ | refine lF rfl rfl ?_)
      exact x_round (i + 1) ⟨rfl, by rw [hnx]; rfl, rfl, rfl, trivial⟩ hi2 (fun w' hw' => hw'.pick [] rfl rfl) (by omega)
    · obtain rfl : i = wd := by omega
      (repeat first | with_reducible (first | apply t_seq | apply t_region | apply t_block | apply t_ret | apply t_skip | apply t_exit | apply l_nil | apply x_then | apply x_pass_exit | apply x_pass_ret | apply x_block_ret | apply x_block_normal | apply x_block_here | apply x_block_out rfl) | refine lAv rfl ?_ | refine l_no rfl ?_ | refine tT rfl rfl ?_ | refine tF rfl rfl ?_ | refine lT rfl rfl ?_ | refine lF rfl rfl ?_)
      exact x_pu2 rfl rfl rfl rfl
theorem beV_take (s : Bys) {i : Nat} (h : i < s.length) : beV (s.take (i + 1)) = beV (s.take i) * 256 + s[i].toNat := by
  rw [List.take_succ_eq_append_getElem h, beV_snoc]
theorem value_calls (s : Bys) (hs : s.length ≤ 8) (w : World) : Pu Tryz.prog 38 #[.string ⟨s.toArray⟩] w (.int .u64 (beV s : Nat)) := by
  refine pu_of [_] Tryz.func38 rfl rfl ?_
  simp only [argSlots]
  have hsl := ba_len s
  (repeat first | with_reducible (first | apply t_seq | apply t_region | apply t_block | apply t_ret | apply t_skip | apply t_exit | apply l_nil | apply x_then | apply x_pass_exit | apply x_pass_ret | apply x_block_ret | apply x_block_normal | apply x_block_here | apply x_block_out rfl) | refine lAv rfl ?_ | refine l_no rfl ?_ | refine tT rfl rfl ?_ | refine tF rfl rfl ?_ | refine lT rfl rfl ?_ | refine lF rfl rfl ?_)
  refine t_for (α := Nat) (fun i => [(0, .string ⟨s.toArray⟩), (3, .int .u64 (beV (s.take i) : Nat)), (4, .int .i64 i)]) (fun i => i ≤ s.length) (fun _ => []) (fun i => s.length - i) 0 ⟨rfl, rfl, rfl, trivial⟩ (Nat.zero_le _) (fun w' hw' => hw') fun i hi => ?_
  by_cases hi2 : i < s.length
  · have hup := beV_take s hi2
    have hlt : beV (s.take (i + 1)) < 18446744073709551616 := by
      have h1 := beV_lt (s.take (i + 1))
      have h2 : (s.take (i + 1)).length ≤ 8 := by rw [List.length_take]; omega
      have h3 : 256 ^ (s.take (i + 1)).length ≤ 256 ^ 8 := Nat.pow_le_pow_right (by decide) h2
      omega
    have hget : ∀ h : i < (⟨s.toArray⟩ : ByteArray).size, (⟨s.toArray⟩ : ByteArray)[i] = s[i] := fun _ => rfl
    have hc := s[i].toNat_lt
    generalize beV (s.take i) = q at hup ⊢
    (repeat first | with_reducible (first | apply t_seq | apply t_region | apply t_block | apply t_ret | apply t_skip | apply t_exit | apply l_nil | apply x_then | apply x_pass_exit | apply x_pass_ret | apply x_block_ret | apply x_block_normal | apply x_block_here | apply x_block_out rfl) | refine lAv rfl ?_ | refine l_no rfl ?_ | refine tT rfl rfl ?_ | refine tF rfl rfl ?_ | refine lT rfl rfl ?_ | refine lF rfl rfl ?_)
    refine l_say 15 _ (.int .u8 (s[i].toNat : Int)) rfl rfl ?_
    (repeat first | with_reducible (first | apply t_seq | apply t_region | apply t_block | apply t_ret | apply t_skip | apply t_exit | apply l_nil | apply x_then | apply x_pass_exit | apply x_pass_ret | apply x_block_ret | apply x_block_normal | apply x_block_here | apply x_block_out rfl) | refine lAv rfl ?_ | refine l_no rfl ?_ | refine tT rfl rfl ?_ | refine tF rfl rfl ?_ | refine lT rfl rfl ?_ | refine lF rfl rfl ?_)
    exact x_round (i + 1) ⟨rfl, by rw [hup]; rfl, rfl, trivial⟩ hi2 (fun w' hw' => hw') (by omega)
  · obtain rfl : i = s.length := by omega
    rw [List.take_length]
    (repeat first | with_reducible (first | apply t_seq | apply t_region | apply t_block | apply t_ret | apply t_skip | apply t_exit | apply l_nil | apply x_then | apply x_pass_exit | apply x_pass_ret | apply x_block_ret | apply x_block_normal | apply x_block_here | apply x_block_out rfl) | refine lAv rfl ?_ | refine l_no rfl ?_ | refine tT rfl rfl ?_ | refine tF rfl rfl ?_ | refine lT rfl rfl ?_ | refine lF rfl rfl ?_)
    exact x_pu rfl rfl rfl
/-- An opener as a value. -/
abbrev opA (o : Opn) : Value := .agg #[.string ⟨o.1.toArray⟩, .bool o.2]
theorem rtext_calls (o : Opn) (n : Nat) (hn : n ≤ 9223372036854775807) (w : World) : Pu Tryz.prog 40 #[opA o, .int .i64 n] w (.tuple #[.string ⟨(opT n o).1.toArray⟩, opA (opT n o).2]) := by
  obtain ⟨s, bad⟩ := o
  show Pu _ _ #[.agg #[.string ⟨s.toArray⟩, .bool bad], .int .i64 n] _ _
  refine pu_of [_, _] Tryz.func40 rfl rfl ?_
  simp only [argSlots, Nat.reduceAdd]
  have hsl := ba_len s
  (repeat first | with_reducible (first | apply t_seq | apply t_region | apply t_block | apply t_ret | apply t_skip | apply t_exit | apply l_nil | apply x_then | apply x_pass_exit | apply x_pass_ret | apply x_block_ret | apply x_block_normal | apply x_block_here | apply x_block_out rfl) | refine lAv rfl ?_ | refine l_no rfl ?_ | refine tT rfl rfl ?_ | refine tF rfl rfl ?_ | refine lT rfl rfl ?_ | refine lF rfl rfl ?_)
  refine l_boxa rfl rfl fun b2 hb2 => ?_
  (repeat first | with_reducible (first | apply t_seq | apply t_region | apply t_block | apply t_ret | apply t_skip | apply t_exit | apply l_nil | apply x_then | apply x_pass_exit | apply x_pass_ret | apply x_block_ret | apply x_block_normal | apply x_block_here | apply x_block_out rfl) | refine lAv rfl ?_ | refine l_no rfl ?_ | refine tT rfl rfl ?_ | refine tF rfl rfl ?_ | refine lT rfl rfl ?_ | refine lF rfl rfl ?_)
  refine l_alloca rfl rfl fun b5 hb5 => ?_
  (repeat first | with_reducible (first | apply t_seq | apply t_region | apply t_block | apply t_ret | apply t_skip | apply t_exit | apply l_nil | apply x_then | apply x_pass_exit | apply x_pass_ret | apply x_block_ret | apply x_block_normal | apply x_block_here | apply x_block_out rfl) | refine lAv rfl ?_ | refine l_no rfl ?_ | refine tT rfl rfl ?_ | refine tF rfl rfl ?_ | refine lT rfl rfl ?_ | refine lF rfl rfl ?_)
  cases bad with
  | true =>
    rw [opT_bad]
    (repeat first | with_reducible (first | apply t_seq | apply t_region | apply t_block | apply t_ret | apply t_skip | apply t_exit | apply l_nil | apply x_then | apply x_pass_exit | apply x_pass_ret | apply x_block_ret | apply x_block_normal | apply x_block_here | apply x_block_out rfl) | refine lAv rfl ?_ | refine l_no rfl ?_ | refine tT rfl rfl ?_ | refine tF rfl rfl ?_ | refine lT rfl rfl ?_ | refine lF rfl rfl ?_)
    refine t_drawm [0, 1] 2 rfl rfl (by kernel_rfl) ?_
    (repeat first | refine dAv [] rfl rfl rfl ?_ | refine dno [] rfl rfl rfl ?_ | refine dT [] rfl rfl rfl rfl ?_ | refine dF [] rfl rfl rfl rfl ?_)
    refine d_tail ⟨by kernel_rfl, by kernel_rfl⟩ rfl rfl (o_storea (cs' := #[.string ⟨s.toArray⟩, .bool true]) rfl rfl rfl rfl rfl rfl) fun _ => ?_
    (repeat first | with_reducible (first | apply t_seq | apply t_region | apply t_block | apply t_ret | apply t_skip | apply t_exit | apply l_nil | apply x_then | apply x_pass_exit | apply x_pass_ret | apply x_block_ret | apply x_block_normal | apply x_block_here | apply x_block_out rfl) | refine lAv rfl ?_ | refine l_no rfl ?_ | refine tT rfl rfl ?_ | refine tF rfl rfl ?_ | refine lT rfl rfl ?_ | refine lF rfl rfl ?_)
    exact x_pu2 rfl rfl ⟨_, rfl, loada_run rfl (.head _)⟩ rfl
  | false =>
    by_cases h : s.length < n
    · have e : opT n (s, false) = ([], (s, true)) := by unfold opT; rw [if_neg (by exact Bool.false_ne_true), if_pos h]
      rw [e]
      (repeat first | with_reducible (first | apply t_seq | apply t_region | apply t_block | apply t_ret | apply t_skip | apply t_exit | apply l_nil | apply x_then | apply x_pass_exit | apply x_pass_ret | apply x_block_ret | apply x_block_normal | apply x_block_here | apply x_block_out rfl) | refine lAv rfl ?_ | refine l_no rfl ?_ | refine tT rfl rfl ?_ | refine tF rfl rfl ?_ | refine lT rfl rfl ?_ | refine lF rfl rfl ?_)
      refine t_drawm [0, 1] 4 rfl rfl (by kernel_rfl) ?_
      (repeat first | refine dAv [] rfl rfl rfl ?_ | refine dno [] rfl rfl rfl ?_ | refine dT [] rfl rfl rfl rfl ?_ | refine dF [] rfl rfl rfl rfl ?_)
      refine d_tail ⟨by kernel_rfl, by kernel_rfl⟩ rfl rfl (o_storea (cs' := #[.string ⟨s.toArray⟩, .bool true]) rfl rfl rfl rfl rfl rfl) fun _ => ?_
      (repeat first | with_reducible (first | apply t_seq | apply t_region | apply t_block | apply t_ret | apply t_skip | apply t_exit | apply l_nil | apply x_then | apply x_pass_exit | apply x_pass_ret | apply x_block_ret | apply x_block_normal | apply x_block_here | apply x_block_out rfl) | refine lAv rfl ?_ | refine l_no rfl ?_ | refine tT rfl rfl ?_ | refine tF rfl rfl ?_ | refine lT rfl rfl ?_ | refine lF rfl rfl ?_)
      exact x_pu2 rfl rfl ⟨_, rfl, loada_run rfl (.head _)⟩ rfl
    · have e : opT n (s, false) = (s.take n, (s.drop n, false)) := by unfold opT; rw [if_neg (by exact Bool.false_ne_true), if_neg h]
      rw [e]
      (repeat first | with_reducible (first | apply t_seq | apply t_region | apply t_block | apply t_ret | apply t_skip | apply t_exit | apply l_nil | apply x_then | apply x_pass_exit | apply x_pass_ret | apply x_block_ret | apply x_block_normal | apply x_block_here | apply x_block_out rfl) | refine lAv rfl ?_ | refine l_no rfl ?_ | refine tT rfl rfl ?_ | refine tF rfl rfl ?_ | refine lT rfl rfl ?_ | refine lF rfl rfl ?_)
      refine t_drawm [0, 1] 10 rfl rfl (by kernel_rfl) ?_
      (repeat first | refine dAv [] rfl rfl rfl ?_ | refine dno [] rfl rfl rfl ?_ | refine dT [] rfl rfl rfl rfl ?_ | refine dF [] rfl rfl rfl rfl ?_)
      refine d_say 4 _ (.string ⟨(s.take n).toArray⟩) rfl (congrArg Value.string (ext_take s n (by omega))) ?_
      refine d_say 29 _ (.agg #[.string ⟨(s.drop n).toArray⟩, .bool false]) rfl (by rw [ext_drop]; rfl) ?_
      refine d_tail ⟨by kernel_rfl, by kernel_rfl⟩ rfl rfl (o_storea (cs' := #[.string ⟨(s.drop n).toArray⟩, .bool false]) rfl rfl rfl rfl rfl rfl) fun _ => ?_
      (repeat first | with_reducible (first | apply t_seq | apply t_region | apply t_block | apply t_ret | apply t_skip | apply t_exit | apply l_nil | apply x_then | apply x_pass_exit | apply x_pass_ret | apply x_block_ret | apply x_block_normal | apply x_block_here | apply x_block_out rfl) | refine lAv rfl ?_ | refine l_no rfl ?_ | refine tT rfl rfl ?_ | refine tF rfl rfl ?_ | refine lT rfl rfl ?_ | refine lF rfl rfl ?_)
      exact x_pu2 rfl rfl ⟨_, rfl, loada_run rfl (.head _)⟩ rfl
theorem rtake_calls (o : Opn) (wd : Nat) (hw : wd = 1 ∨ wd = 2 ∨ wd = 4 ∨ wd = 8) (w : World) : Pu Tryz.prog 39 #[opA o, .int .i64 wd] w (.tuple #[.int .u64 ((opN wd o).1 : Nat), opA (opN wd o).2]) := by
  refine pu_of [_, _] Tryz.func39 rfl rfl ?_
  simp only [argSlots, Nat.reduceAdd]
  have hlen := opT_len wd o
  have h8 : wd ≤ 8 := by omega
  (repeat first | with_reducible (first | apply t_seq | apply t_region | apply t_block | apply t_ret | apply t_skip | apply t_exit | apply l_nil | apply x_then | apply x_pass_exit | apply x_pass_ret | apply x_block_ret | apply x_block_normal | apply x_block_here | apply x_block_out rfl) | refine lAv rfl ?_ | refine l_no rfl ?_ | refine tT rfl rfl ?_ | refine tF rfl rfl ?_ | refine lT rfl rfl ?_ | refine lF rfl rfl ?_)
  refine l_boxa rfl rfl fun b2 hb2 => ?_
  (repeat first | with_reducible (first | apply t_seq | apply t_region | apply t_block | apply t_ret | apply t_skip | apply t_exit | apply l_nil | apply x_then | apply x_pass_exit | apply x_pass_ret | apply x_block_ret | apply x_block_normal | apply x_block_here | apply x_block_out rfl) | refine lAv rfl ?_ | refine l_no rfl ?_ | refine tT rfl rfl ?_ | refine tF rfl rfl ?_ | refine lT rfl rfl ?_ | refine lF rfl rfl ?_)
  refine l_alloca rfl rfl fun b5 hb5 => ?_
  (repeat first | with_reducible (first | apply t_seq | apply t_region | apply t_block | apply t_ret | apply t_skip | apply t_exit | apply l_nil | apply x_then | apply x_pass_exit | apply x_pass_ret | apply x_block_ret | apply x_block_normal | apply x_block_here | apply x_block_out rfl) | refine lAv rfl ?_ | refine l_no rfl ?_ | refine tT rfl rfl ?_ | refine tF rfl rfl ?_ | refine lT rfl rfl ?_ | refine lF rfl rfl ?_)
  rcases hw with hw | hw | hw | hw
  all_goals
    (repeat first | with_reducible (first | apply t_seq | apply t_region | apply t_block | apply t_ret | apply t_skip | apply t_exit | apply l_nil | apply x_then | apply x_pass_exit | apply x_pass_ret | apply x_block_ret | apply x_block_normal | apply x_block_here | apply x_block_out rfl) | refine lAv rfl ?_ | refine l_no rfl ?_ | refine tT rfl rfl ?_ | refine tF rfl rfl ?_ | refine lT rfl rfl ?_ | refine lF rfl rfl ?_)
    refine l_opg rfl (o_pure rfl (by kernel_rfl) rfl (fun w1 hw1 => rtext_calls o wd (by omega) w1)) fun _ => ?_
    (repeat first | with_reducible (first | apply t_seq | apply t_region | apply t_block | apply t_ret | apply t_skip | apply t_exit | apply l_nil | apply x_then | apply x_pass_exit | apply x_pass_ret | apply x_block_ret | apply x_block_normal | apply x_block_here | apply x_block_out rfl) | refine lAv rfl ?_ | refine l_no rfl ?_ | refine tT rfl rfl ?_ | refine tF rfl rfl ?_ | refine lT rfl rfl ?_ | refine lF rfl rfl ?_)
    refine l_alloca rfl rfl fun b7 hb7 => ?_
    (repeat first | with_reducible (first | apply t_seq | apply t_region | apply t_block | apply t_ret | apply t_skip | apply t_exit | apply l_nil | apply x_then | apply x_pass_exit | apply x_pass_ret | apply x_block_ret | apply x_block_normal | apply x_block_here | apply x_block_out rfl) | refine lAv rfl ?_ | refine l_no rfl ?_ | refine tT rfl rfl ?_ | refine tF rfl rfl ?_ | refine lT rfl rfl ?_ | refine lF rfl rfl ?_)
    refine l_op rfl (o_storea (cs' := #[.string ⟨(opT wd o).2.1.toArray⟩, .bool (opT wd o).2.2]) rfl rfl rfl rfl rfl rfl) fun _ => ?_
    (repeat first | with_reducible (first | apply t_seq | apply t_region | apply t_block | apply t_ret | apply t_skip | apply t_exit | apply l_nil | apply x_then | apply x_pass_exit | apply x_pass_ret | apply x_block_ret | apply x_block_normal | apply x_block_here | apply x_block_out rfl) | refine lAv rfl ?_ | refine l_no rfl ?_ | refine tT rfl rfl ?_ | refine tF rfl rfl ?_ | refine lT rfl rfl ?_ | refine lF rfl rfl ?_)
    refine t_drawm [0, 1, 2] 4 rfl rfl (by kernel_rfl) ?_
    (repeat first | refine dAv [] rfl rfl rfl ?_ | refine dno [] rfl rfl rfl ?_ | refine dT [] rfl rfl rfl rfl ?_ | refine dF [] rfl rfl rfl rfl ?_)
    refine d_opg 1 ⟨by kernel_rfl, by decide⟩ rfl rfl (o_pure rfl (by kernel_rfl) rfl (fun w1 hw1 => value_calls (opT wd o).1 (by omega) w1)) (fun _ _ h => by first | exact h | exact Hp.sub h (.cons _ (.refl _)) | exact Hp.sub h (.cons _ (.cons _ (.refl _))) | exact Hp.sub h (.cons _ (.cons _ (.cons _ (.refl _)))) | exact Hp.sub h (.cons _ (.cons _ (.cons _ (.cons _ (.refl _))))) | exact Hp.sub h (.cons _ (.cons _ (.cons _ (.cons _ (.cons _ (.refl _)))))) | exact Hp.sub h (.cons _ (.cons _ (.cons _ (.cons _ (.cons _ (.cons _ (.refl _)))))))) fun _ => ?_
    (repeat first | refine dAv [] rfl rfl rfl ?_ | refine dno [] rfl rfl rfl ?_ | refine dT [] rfl rfl rfl rfl ?_ | refine dF [] rfl rfl rfl rfl ?_)
    refine d_tail ⟨by kernel_rfl, by kernel_rfl⟩ rfl rfl (ho_perm (bring1 _ _ _) (o_storea (cs' := #[.string ⟨(opT wd o).2.1.toArray⟩, .bool (opT wd o).2.2]) rfl rfl rfl rfl rfl rfl)) fun _ => ?_
    (repeat first | with_reducible (first | apply t_seq | apply t_region | apply t_block | apply t_ret | apply t_skip | apply t_exit | apply l_nil | apply x_then | apply x_pass_exit | apply x_pass_ret | apply x_block_ret | apply x_block_normal | apply x_block_here | apply x_block_out rfl) | refine lAv rfl ?_ | refine l_no rfl ?_ | refine tT rfl rfl ?_ | refine tF rfl rfl ?_ | refine lT rfl rfl ?_ | refine lF rfl rfl ?_)
    exact x_pu2 rfl rfl ⟨_, rfl, loada_run rfl (.head _)⟩ rfl
end Go.Proofs.YtdkonngkbbgcgaaGreatDoor
