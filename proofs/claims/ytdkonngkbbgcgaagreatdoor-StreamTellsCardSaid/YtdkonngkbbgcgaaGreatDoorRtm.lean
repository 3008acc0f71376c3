/- The document's hash (armariumref03): rotr, Blocks. -/
import Derived.Test.YtdkonngkbbgcgaaGreatDoorRtl
import Derived.Test.YtdkonngkbbgcgaaGreatDoorRta
namespace Go.Proofs.YtdkonngkbbgcgaaGreatDoor
open Go.RowKit Go.Eng
set_option maxRecDepth 100000
set_option maxHeartbeats 40000000
theorem rrotr_calls (x : W32) (n : Nat) (hn : n ≤ 32) (w : World) : Pu Tryz.prog 77 #[w32 x, .int .i64 n] w (w32 (rotr x n)) := by
  refine pu_of [_, _] Tryz.func77 rfl rfl ?_
  simp only [argSlots, Nat.reduceAdd]
  (repeat first | with_reducible (first | apply t_seq | apply t_region | apply t_block | apply t_ret | apply t_skip | apply t_exit | apply l_nil | apply x_then | apply x_pass_exit | apply x_pass_ret | apply x_block_ret | apply x_block_normal | apply x_block_here | apply x_block_out rfl) | refine lWv rfl ?_ | refine l_no rfl ?_ | refine tT rfl rfl ?_ | refine tF rfl rfl ?_ | refine lT rfl rfl ?_ | refine lF rfl rfl ?_)
  refine t_drawp (by kernel_rfl) ?_
  (repeat first | refine dWv [] rfl rfl rfl ?_ | refine dno [] rfl rfl rfl ?_ | refine dT [] rfl rfl rfl rfl ?_ | refine dF [] rfl rfl rfl rfl ?_)
  refine d_end (by kernel_rfl) ?_
  (repeat first | with_reducible (first | apply t_seq | apply t_region | apply t_block | apply t_ret | apply t_skip | apply t_exit | apply l_nil | apply x_then | apply x_pass_exit | apply x_pass_ret | apply x_block_ret | apply x_block_normal | apply x_block_here | apply x_block_out rfl) | refine lWv rfl ?_ | refine l_no rfl ?_ | refine tT rfl rfl ?_ | refine tF rfl rfl ?_ | refine lT rfl rfl ?_ | refine lF rfl rfl ?_)
  exact x_pu rfl rfl rfl
theorem be_take (N : Nat) : ∀ {i : Nat}, i < 8 → (be64 N).take (8 - i) = (be64 N).take (8 - (i + 1)) ++ [UInt8.ofNat (N / 2 ^ (8 * i))]
  | 0, _ => by rw [Nat.mul_zero, Nat.pow_zero, Nat.div_one]; rfl
  | 1, _ => rfl
  | 2, _ => rfl
  | 3, _ => rfl
  | 4, _ => rfl
  | 5, _ => rfl
  | 6, _ => rfl
  | 7, _ => rfl
theorem beW_val (a b c d : UInt8) : ((a.toNat * 16777216 + b.toNat * 65536 + c.toNat * 256 + d.toNat : Nat) : Int) = ((beW a b c d).toNat : Int) := by
  have h1 := a.toNat_lt
  have h2 := b.toNat_lt
  have h3 := c.toNat_lt
  have h4 := d.toNat_lt
  rw [beW, BitVec.toNat_ofNat, Nat.mod_eq_of_lt (by omega)]
/-- So many words of bytes. -/
def wordsL (P : Bys) (j : Nat) : List Value := (List.range j).map fun i => w32 (wordAt P i)
theorem wordsL_len (P : Bys) (j : Nat) : (wordsL P j).length = j := by simp [wordsL]
theorem wordsL_up (P : Bys) (j : Nat) : wordsL P (j + 1) = wordsL P j ++ [w32 (wordAt P j)] := by simp [wordsL, List.range_succ]
theorem wordsL_at (P : Bys) {j i : Nat} (h : i < j) : (wordsL P j)[i]? = some (w32 (wordAt P i)) := by simp [wordsL, h]
theorem str_at {P : Bys} {i : Nat} (hi : i < P.length) (h : i < (⟨P.toArray⟩ : ByteArray).size) : (((⟨P.toArray⟩ : ByteArray)[i]).toNat : Int) = ((P.getD i 0).toNat : Int) := by
  rw [getD_eq hi]; rfl
theorem blocks_calls (s : Bys) (hs : s.length ≤ 1000000) (w : World) : Ct Tryz.prog 76 #[.string ⟨s.toArray⟩] w none' (fun o : Option (Nat × Nat) => slV o ((s ++ padOf s.length).length / 4)) (fun _ => True) (fun o => [own 29 1 o ((s ++ padOf s.length).length / 4) (wordsL (s ++ padOf s.length) ((s ++ padOf s.length).length / 4))]) := by
  refine ct_of [_] Tryz.func76 rfl rfl ?_
  simp only [argSlots]
  have hsl := ba_len s
  have h1 : (⟨#[128]⟩ : ByteArray).size = 1 := rfl
  (repeat first | with_reducible (first | apply t_seq | apply t_region | apply t_block | apply t_ret | apply t_skip | apply t_exit | apply l_nil | apply x_then | apply x_pass_exit | apply x_pass_ret | apply x_block_ret | apply x_block_normal | apply x_block_here | apply x_block_out rfl) | refine lAv rfl ?_ | refine l_no rfl ?_ | refine tT rfl rfl ?_ | refine tF rfl rfl ?_ | refine lT rfl rfl ?_ | refine lF rfl rfl ?_)
  have hpl : (s ++ padOf s.length).length = s.length + 1 + (119 - s.length % 64) % 64 + 8 := by rw [List.length_append, pad_length]; omega
  generalize hz : (119 - s.length % 64) % 64 = z at hpl
  refine t_for (α := Nat) (fun k => [(0, .string ⟨(s ++ 128 :: List.replicate k 0).toArray⟩), (3, .int .u64 (s.length * 8 : Nat))]) (fun k => k ≤ z)
    (fun _ => []) (fun k => z - k) 0 ⟨congrArg (fun b => some (Value.string b)) (ba_ext (by simp)), by rw [hsl]; rfl, trivial⟩ (Nat.zero_le _) (fun w' hw' => hw') fun k hk => ?_
  have hkl := ba_len (s ++ 128 :: List.replicate k 0)
  rw [List.length_append, List.length_cons, List.length_replicate] at hkl
  by_cases hk2 : k < z
  · have h0 : (⟨#[0]⟩ : ByteArray).size = 1 := rfl
    have hne : (s.length + (k + 1)) % 64 ≠ 56 := by omega
    rw [← hkl] at hne
    (repeat first | with_reducible (first | apply t_seq | apply t_region | apply t_block | apply t_ret | apply t_skip | apply t_exit | apply l_nil | apply x_then | apply x_pass_exit | apply x_pass_ret | apply x_block_ret | apply x_block_normal | apply x_block_here | apply x_block_out rfl) | refine lAv rfl ?_ | refine l_no rfl ?_ | refine tT rfl rfl ?_ | refine tF rfl rfl ?_ | refine lT rfl rfl ?_ | refine lF rfl rfl ?_)
    refine x_round (k + 1) ⟨congrArg (fun b => some (Value.string b)) (ba_ext ?_), rfl, trivial⟩ hk2 (fun w' hw' => hw') (by omega)
    simp [List.replicate_succ']
  · obtain rfl : k = z := by omega
    have hne : (s.length + (k + 1)) % 64 = 56 := by omega
    rw [← hkl] at hne
    (repeat first | with_reducible (first | apply t_seq | apply t_region | apply t_block | apply t_ret | apply t_skip | apply t_exit | apply l_nil | apply x_then | apply x_pass_exit | apply x_pass_ret | apply x_block_ret | apply x_block_normal | apply x_block_here | apply x_block_out rfl) | refine lAv rfl ?_ | refine l_no rfl ?_ | refine tT rfl rfl ?_ | refine tF rfl rfl ?_ | refine lT rfl rfl ?_ | refine lF rfl rfl ?_)
    refine t_for (α := Nat) (fun i => [(0, .string ⟨((s ++ 128 :: List.replicate k 0) ++ (be64 (8 * s.length)).take (8 - i)).toArray⟩), (3, .int .u64 (s.length * 8 : Nat)), (4, .int .i64 (dnI i))]) (fun i => i ≤ 8)
      (fun _ => []) (fun i => i) 8 ⟨congrArg (fun b => some (Value.string b)) (ba_ext (by simp)), rfl, rfl, trivial⟩ (Nat.le_refl _) (fun w' hw' => hw') fun i hi => ?_
    have hbl := ba_len ((s ++ 128 :: List.replicate k 0) ++ (be64 (8 * s.length)).take (8 - i))
    have hb8 : (be64 (8 * s.length)).length = 8 := rfl
    simp only [List.length_append, List.length_cons, List.length_replicate, List.length_take] at hbl
    cases i with
    | succ j =>
      have hup := be_take (8 * s.length) (i := j) (by omega)
      have h1 : (⟨[UInt8.ofNat (8 * s.length / 2 ^ (8 * j))].toArray⟩ : ByteArray).size = 1 := rfl
      rw [show dnI (j + 1) = (j : Int) from rfl]
      (repeat first | with_reducible (first | apply t_seq | apply t_region | apply t_block | apply t_ret | apply t_skip | apply t_exit | apply l_nil | apply x_then | apply x_pass_exit | apply x_pass_ret | apply x_block_ret | apply x_block_normal | apply x_block_here | apply x_block_out rfl) | refine lAv rfl ?_ | refine l_no rfl ?_ | refine tT rfl rfl ?_ | refine tF rfl rfl ?_ | refine lT rfl rfl ?_ | refine lF rfl rfl ?_)
      refine l_w rfl (v_cvM rfl rfl rfl) ?_
      refine l_say 28 _ (.int .u8 ((UInt8.ofNat (8 * s.length / 2 ^ (8 * j))).toNat : Int)) rfl (by rw [Nat.mul_comm 8 s.length]; simp) ?_
      refine l_op rfl (o_buildslice rfl rfl rfl rfl rfl rfl) fun ⟨bq, hbq⟩ => ?_
      refine l_w rfl (v_bstr (bs := [UInt8.ofNat (8 * s.length / 2 ^ (8 * j))]) rfl rfl rfl rfl (fun w' hw' => own_Rd (o := some (bq, 1)) (hw'.item _ (.head _)).1)) ?_
      (repeat first | with_reducible (first | apply t_seq | apply t_region | apply t_block | apply t_ret | apply t_skip | apply t_exit | apply l_nil | apply x_then | apply x_pass_exit | apply x_pass_ret | apply x_block_ret | apply x_block_normal | apply x_block_here | apply x_block_out rfl) | refine lAv rfl ?_ | refine l_no rfl ?_ | refine tT rfl rfl ?_ | refine tF rfl rfl ?_ | refine lT rfl rfl ?_ | refine lF rfl rfl ?_)
      refine l_w rfl (v_subI rfl rfl (by omega)) ?_
      (repeat first | with_reducible (first | apply t_seq | apply t_region | apply t_block | apply t_ret | apply t_skip | apply t_exit | apply l_nil | apply x_then | apply x_pass_exit | apply x_pass_ret | apply x_block_ret | apply x_block_normal | apply x_block_here | apply x_block_out rfl) | refine lAv rfl ?_ | refine l_no rfl ?_ | refine tT rfl rfl ?_ | refine tF rfl rfl ?_ | refine lT rfl rfl ?_ | refine lF rfl rfl ?_)
      refine x_round j ⟨congrArg (fun b => some (Value.string b)) (ba_ext ?_), rfl, by rw [dnI_eq]; rfl, trivial⟩ (by omega) (fun w' hw' => hw'.pick [] rfl rfl) (by omega)
      rw [hup]
      simp
    | zero =>
      rw [show dnI 0 = -1 from rfl]
      have hP : (s ++ 128 :: List.replicate k 0) ++ (be64 (8 * s.length)).take (8 - 0) = s ++ padOf s.length := by
        rw [padOf, hz, List.take_of_length_le (by rw [hb8]; omega)]
        simp
      rw [hP] at hbl ⊢
      have hPl : (s ++ padOf s.length).length ≤ 1000100 := by omega
      have hmod : (s ++ padOf s.length).length % 4 = 0 := by omega
      have hbl := ba_len (s ++ padOf s.length)
      generalize s ++ padOf s.length = P at hbl hPl hmod hpl ⊢
      (repeat first | with_reducible (first | apply t_seq | apply t_region | apply t_block | apply t_ret | apply t_skip | apply t_exit | apply l_nil | apply x_then | apply x_pass_exit | apply x_pass_ret | apply x_block_ret | apply x_block_normal | apply x_block_here | apply x_block_out rfl) | refine lAv rfl ?_ | refine l_no rfl ?_ | refine tT rfl rfl ?_ | refine tF rfl rfl ?_ | refine lT rfl rfl ?_ | refine lF rfl rfl ?_)
      refine t_imp (m' := [own 29 1 none 0 (wordsL P 0)]) (fun w' hw' => hp_nil1 _ _ hw') ?_
      refine t_for (α := Nat × Option (Nat × Nat)) (fun y => [(0, .string ⟨P.toArray⟩), (5, slV y.2 y.1), (6, .int .i64 (4 * y.1 : Nat))]) (fun y => 4 * y.1 ≤ P.length)
        (fun y => [own 29 1 y.2 y.1 (wordsL P y.1)]) (fun y => P.length - y.1) (0, none) ⟨rfl, rfl, rfl, trivial⟩ (Nat.zero_le _) (fun w' hw' => hw') fun ⟨j, o⟩ hj => ?_
      simp only at hj ⊢
      by_cases hj2 : 4 * j < P.length
      · have hw1 := wordsL_up P j
        have e0 := str_at (P := P) (i := 4 * j) (by omega)
        have e1 := str_at (P := P) (i := 4 * j + 1) (by omega)
        have e2 := str_at (P := P) (i := 4 * j + 2) (by omega)
        have e3 := str_at (P := P) (i := 4 * j + 3) (by omega)
        have l0 := (P.getD (4 * j) 0).toNat_lt
        have l1 := (P.getD (4 * j + 1) 0).toNat_lt
        have l2 := (P.getD (4 * j + 2) 0).toNat_lt
        have l3 := (P.getD (4 * j + 3) 0).toNat_lt
        have hWd : wordAt P j = beW (P.getD (4 * j) 0) (P.getD (4 * j + 1) 0) (P.getD (4 * j + 2) 0) (P.getD (4 * j + 3) 0) := rfl
        have hv := beW_val (P.getD (4 * j) 0) (P.getD (4 * j + 1) 0) (P.getD (4 * j + 2) 0) (P.getD (4 * j + 3) 0)
        generalize P.getD (4 * j) 0 = c0 at e0 l0 hWd hv
        generalize P.getD (4 * j + 1) 0 = c1 at e1 l1 hWd hv
        generalize P.getD (4 * j + 2) 0 = c2 at e2 l2 hWd hv
        generalize P.getD (4 * j + 3) 0 = c3 at e3 l3 hWd hv
        (repeat first | with_reducible (first | apply t_seq | apply t_region | apply t_block | apply t_ret | apply t_skip | apply t_exit | apply l_nil | apply x_then | apply x_pass_exit | apply x_pass_ret | apply x_block_ret | apply x_block_normal | apply x_block_here | apply x_block_out rfl) | refine lAv rfl ?_ | refine l_no rfl ?_ | refine tT rfl rfl ?_ | refine tF rfl rfl ?_ | refine lT rfl rfl ?_ | refine lF rfl rfl ?_)
        refine t_drawm [] 29 rfl rfl (by kernel_rfl) ?_
        (repeat first | refine dAv [3, 9, 16, 23] rfl rfl rfl ?_ | refine dno [3, 9, 16, 23] rfl rfl rfl ?_ | refine dT [3, 9, 16, 23] rfl rfl rfl rfl ?_ | refine dF [3, 9, 16, 23] rfl rfl rfl rfl ?_)
        refine d_v [9, 16, 23] rfl rfl (by kernel_rfl) (fun _ h => by first | exact h | exact Hp.sub h (.cons _ (.refl _)) | exact Hp.sub h (.cons _ (.cons _ (.refl _))) | exact Hp.sub h (.cons _ (.cons _ (.cons _ (.refl _)))) | exact Hp.sub h (.cons _ (.cons _ (.cons _ (.cons _ (.refl _))))) | exact Hp.sub h (.cons _ (.cons _ (.cons _ (.cons _ (.cons _ (.refl _)))))) | exact Hp.sub h (.cons _ (.cons _ (.cons _ (.cons _ (.cons _ (.cons _ (.refl _)))))))) rfl rfl (v_sa (i := 4 * j) (s := ⟨P.toArray⟩) rfl rfl rfl (by rw [hbl]; omega)) ?_
        simp only [e0]
        (repeat first | refine dAv [9, 16, 23] rfl rfl rfl ?_ | refine dno [9, 16, 23] rfl rfl rfl ?_ | refine dT [9, 16, 23] rfl rfl rfl rfl ?_ | refine dF [9, 16, 23] rfl rfl rfl rfl ?_)
        refine d_v [16, 23] rfl rfl (by kernel_rfl) (fun _ h => by first | exact h | exact Hp.sub h (.cons _ (.refl _)) | exact Hp.sub h (.cons _ (.cons _ (.refl _))) | exact Hp.sub h (.cons _ (.cons _ (.cons _ (.refl _)))) | exact Hp.sub h (.cons _ (.cons _ (.cons _ (.cons _ (.refl _))))) | exact Hp.sub h (.cons _ (.cons _ (.cons _ (.cons _ (.cons _ (.refl _)))))) | exact Hp.sub h (.cons _ (.cons _ (.cons _ (.cons _ (.cons _ (.cons _ (.refl _)))))))) rfl rfl (v_sa (i := 4 * j + 1) (s := ⟨P.toArray⟩) rfl rfl rfl (by rw [hbl]; omega)) ?_
        simp only [e1]
        (repeat first | refine dAv [16, 23] rfl rfl rfl ?_ | refine dno [16, 23] rfl rfl rfl ?_ | refine dT [16, 23] rfl rfl rfl rfl ?_ | refine dF [16, 23] rfl rfl rfl rfl ?_)
        refine d_v [23] rfl rfl (by kernel_rfl) (fun _ h => by first | exact h | exact Hp.sub h (.cons _ (.refl _)) | exact Hp.sub h (.cons _ (.cons _ (.refl _))) | exact Hp.sub h (.cons _ (.cons _ (.cons _ (.refl _)))) | exact Hp.sub h (.cons _ (.cons _ (.cons _ (.cons _ (.refl _))))) | exact Hp.sub h (.cons _ (.cons _ (.cons _ (.cons _ (.cons _ (.refl _)))))) | exact Hp.sub h (.cons _ (.cons _ (.cons _ (.cons _ (.cons _ (.cons _ (.refl _)))))))) rfl rfl (v_sa (i := 4 * j + 2) (s := ⟨P.toArray⟩) rfl rfl rfl (by rw [hbl]; omega)) ?_
        simp only [e2]
        (repeat first | refine dAv [23] rfl rfl rfl ?_ | refine dno [23] rfl rfl rfl ?_ | refine dT [23] rfl rfl rfl rfl ?_ | refine dF [23] rfl rfl rfl rfl ?_)
        refine d_v [] rfl rfl (by kernel_rfl) (fun _ h => by first | exact h | exact Hp.sub h (.cons _ (.refl _)) | exact Hp.sub h (.cons _ (.cons _ (.refl _))) | exact Hp.sub h (.cons _ (.cons _ (.cons _ (.refl _)))) | exact Hp.sub h (.cons _ (.cons _ (.cons _ (.cons _ (.refl _))))) | exact Hp.sub h (.cons _ (.cons _ (.cons _ (.cons _ (.cons _ (.refl _)))))) | exact Hp.sub h (.cons _ (.cons _ (.cons _ (.cons _ (.cons _ (.cons _ (.refl _)))))))) rfl rfl (v_sa (i := 4 * j + 3) (s := ⟨P.toArray⟩) rfl rfl rfl (by rw [hbl]; omega)) ?_
        simp only [e3]
        (repeat first | refine dAv [] rfl rfl rfl ?_ | refine dno [] rfl rfl rfl ?_ | refine dT [] rfl rfl rfl rfl ?_ | refine dF [] rfl rfl rfl rfl ?_)
        rw [hv]
        refine d_opg 26 ⟨by kernel_rfl, by decide⟩ rfl rfl (o_buildslice rfl rfl rfl rfl rfl rfl) (fun _ _ h => by first | exact h | exact Hp.sub h (.cons _ (.refl _)) | exact Hp.sub h (.cons _ (.cons _ (.refl _))) | exact Hp.sub h (.cons _ (.cons _ (.cons _ (.refl _)))) | exact Hp.sub h (.cons _ (.cons _ (.cons _ (.cons _ (.refl _))))) | exact Hp.sub h (.cons _ (.cons _ (.cons _ (.cons _ (.cons _ (.refl _)))))) | exact Hp.sub h (.cons _ (.cons _ (.cons _ (.cons _ (.cons _ (.cons _ (.refl _)))))))) fun ⟨bq, hbq⟩ => ?_
        (repeat first | refine dAv [] rfl rfl rfl ?_ | refine dno [] rfl rfl rfl ?_ | refine dT [] rfl rfl rfl rfl ?_ | refine dF [] rfl rfl rfl rfl ?_)
        refine d_opg 27 ⟨by kernel_rfl, by decide⟩ rfl rfl (ho_perm (bring1 _ _ _) (o_append (news := [w32 (beW c0 c1 c2 c3)]) rfl rfl rfl rfl rfl rfl rfl rfl (by omega) (fun w' hw' j v hj => by rw [add_at, Nat.zero_add]; exact own_rd (hw'.item _ (.tail _ (.head _))).1 j v hj))) (fun _ _ h => by first | exact h | exact Hp.sub h (.cons _ (.refl _)) | exact Hp.sub h (.cons _ (.cons _ (.refl _))) | exact Hp.sub h (.cons _ (.cons _ (.cons _ (.refl _)))) | exact Hp.sub h (.cons _ (.cons _ (.cons _ (.cons _ (.refl _))))) | exact Hp.sub h (.cons _ (.cons _ (.cons _ (.cons _ (.cons _ (.refl _)))))) | exact Hp.sub h (.cons _ (.cons _ (.cons _ (.cons _ (.cons _ (.cons _ (.refl _)))))))) fun o' => ?_
        (repeat first | refine dAv [] rfl rfl rfl ?_ | refine dno [] rfl rfl rfl ?_ | refine dT [] rfl rfl rfl rfl ?_ | refine dF [] rfl rfl rfl rfl ?_)
        refine d_end (by kernel_rfl) ?_
        (repeat first | with_reducible (first | apply t_seq | apply t_region | apply t_block | apply t_ret | apply t_skip | apply t_exit | apply l_nil | apply x_then | apply x_pass_exit | apply x_pass_ret | apply x_block_ret | apply x_block_normal | apply x_block_here | apply x_block_out rfl) | refine lAv rfl ?_ | refine l_no rfl ?_ | refine tT rfl rfl ?_ | refine tF rfl rfl ?_ | refine lT rfl rfl ?_ | refine lF rfl rfl ?_)
        exact x_round (j + 1, o') ⟨rfl, rfl, rfl, trivial⟩ (by simp only; omega) (fun w' hw' => by
          show Hp w none' [own _ 1 o' (j + 1) (wordsL P (j + 1))] w'
          rw [hw1, hWd]
          exact hw'.sub (.cons_cons _ (.cons _ (.refl _)))) (by simp only; omega)
      · obtain rfl : j = P.length / 4 := by omega
        (repeat first | with_reducible (first | apply t_seq | apply t_region | apply t_block | apply t_ret | apply t_skip | apply t_exit | apply l_nil | apply x_then | apply x_pass_exit | apply x_pass_ret | apply x_block_ret | apply x_block_normal | apply x_block_here | apply x_block_out rfl) | refine lAv rfl ?_ | refine l_no rfl ?_ | refine tT rfl rfl ?_ | refine tF rfl rfl ?_ | refine lT rfl rfl ?_ | refine lF rfl rfl ?_)
        exact x_ct o rfl rfl rfl trivial (.refl _) (by simp [own_stable])
end Go.Proofs.YtdkonngkbbgcgaaGreatDoor
