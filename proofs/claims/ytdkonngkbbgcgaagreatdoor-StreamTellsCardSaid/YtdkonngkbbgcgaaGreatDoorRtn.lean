/- The document's hash (armariumref03): With. -/
import Derived.Test.YtdkonngkbbgcgaaGreatDoorRtm
import Derived.Test.YtdkonngkbbgcgaaGreatDoorShy
namespace Go.Proofs.YtdkonngkbbgcgaaGreatDoor
open Go.RowKit Go.Eng
set_option maxRecDepth 100000
set_option maxHeartbeats 40000000
/-- A row that is filled up to a place. -/
def partW (n : Nat) (f : Nat → Value) (z : Value) (k : Nat) : List Value := (List.range n).map fun i => if i < k then f i else z
theorem partW_len (n : Nat) (f : Nat → Value) (z : Value) (k : Nat) : (partW n f z k).length = n := by simp [partW]
theorem partW_at {n : Nat} {f : Nat → Value} {z : Value} {k i : Nat} (hi : i < k) (hk : k ≤ n) : (partW n f z k)[i]? = some (f i) := by
  rw [partW, List.getElem?_map, List.getElem?_range (by omega)]
  simp [hi]
theorem partW_up {n : Nat} (f : Nat → Value) (z : Value) {k : Nat} (hk : k < n) : (partW n f z k).set k (f k) = partW n f z (k + 1) := by
  apply List.ext_getElem?
  intro j
  rw [List.getElem?_set]
  by_cases hj : j < n
  · simp only [partW, List.getElem?_map, List.length_map, List.length_range]
    rw [List.getElem?_range hj]
    simp only [Option.map_some]
    by_cases h : k = j
    · subst h
      rw [if_pos rfl, if_pos hj, if_pos (by omega)]
    · rw [if_neg h]
      by_cases h2 : j < k
      · rw [if_pos h2, if_pos (by omega)]
      · rw [if_neg h2, if_neg (by omega)]
  · have h1 : (partW n f z k)[j]? = none := List.getElem?_eq_none (by rw [partW_len]; omega)
    have h2 : (partW n f z (k + 1))[j]? = none := List.getElem?_eq_none (by rw [partW_len]; omega)
    rw [h1, h2, if_neg (by omega)]
def l8 (v : V8) : List Value := v.l.map w32
/-- The table in memory: constants, and eight words. -/
abbrev tbC (L : List Value) : List Value := u32V shaK ++ L
theorem K_len : (u32V shaK).length = 64 := by rw [u32V_len]; decide
theorem tb_K (L : List Value) {i : Nat} (hi : i < 64) : (tbC L)[i]? = some (w32 (Kf i)) := by
  have hl : shaK.length = 64 := by decide
  have hb : ∀ k ∈ shaK, k < 4294967296 := by decide
  rw [List.getElem?_append_left (by rw [K_len]; exact hi)]
  have hh : i < shaK.length := by omega
  have := hb shaK[i] (List.getElem_mem hh)
  rw [u32V, List.getElem?_map, List.getElem?_eq_getElem hh, Option.map_some, Kf, List.getD_eq_getElem?_getD, List.getElem?_eq_getElem hh, Option.getD_some, w32, BitVec.toNat_ofNat, Nat.mod_eq_of_lt this]
theorem tb_H (L : List Value) (i : Nat) : (tbC L)[64 + i]? = L[i]? := by
  rw [List.getElem?_append_right (by rw [K_len]; omega), K_len]
  congr 1
  omega
theorem tb_Ha (L : List Value) (i : Nat) : (tbC L).toArray[64 + i]? = L[i]? := by rw [List.getElem?_toArray, tb_H]
theorem tb_set (L : List Value) (i : Nat) (x : Value) : (tbC L).set (64 + i) x = tbC (L.set i x) := by
  rw [tbC, List.set_append_right _ _ (by rw [K_len]; omega), K_len]
  congr 2
  omega
theorem tb_len (L : List Value) : (tbC L).length = 64 + L.length := by rw [List.length_append, K_len]
theorem l8_at (v : V8) {i : Nat} (hi : i < 8) : (l8 v)[i]? = some (w32 (v.l.getD i 0)) := by
  have h : i < v.l.length := hi
  rw [l8, List.getElem?_map, List.getElem?_eq_getElem h, List.getD_eq_getElem?_getD, List.getElem?_eq_getElem h]
  rfl
theorem l8_len (v : V8) : (l8 v).length = 8 := rfl
theorem l8_one (v : V8) : oneAll (l8 v) = true := rfl
theorem part8_0 (v u : V8) : part8 v.l u.l 0 = l8 v := rfl
theorem part8_8 (v u : V8) : part8 v.l u.l 8 = l8 (v.add u) := rfl
abbrev tbI (b : Nat) (L : List Value) : Eng.Item := pt b (.cells (tbC L).toArray 33 (0, 0))
theorem tab_is : u32V (shaK ++ shaH) = tbC (l8 H8) := by
  rw [u32V, List.map_append]
  rfl
theorem with_calls (s : Bys) (hs : s.length ≤ 1000000) (w : World) : Pu Tryz.prog 55 #[.agg (u32V (shaK ++ shaH)).toArray, .string ⟨s.toArray⟩] w (hashV (shaF s)) := by
  refine pu_of [_, _] Tryz.func55 rfl rfl ?_
  simp only [argSlots, Nat.reduceAdd]
  rw [tab_is]
  (repeat first | with_reducible (first | apply t_seq | apply t_region | apply t_block | apply t_ret | apply t_skip | apply t_exit | apply l_nil | apply x_then | apply x_pass_exit | apply x_pass_ret | apply x_block_ret | apply x_block_normal | apply x_block_here | apply x_block_out rfl) | refine lWv rfl ?_ | refine l_no rfl ?_ | refine tT rfl rfl ?_ | refine tF rfl rfl ?_ | refine lT rfl rfl ?_ | refine lF rfl rfl ?_)
  refine l_boxa rfl rfl fun b2 hb2 => ?_
  (repeat first | with_reducible (first | apply t_seq | apply t_region | apply t_block | apply t_ret | apply t_skip | apply t_exit | apply l_nil | apply x_then | apply x_pass_exit | apply x_pass_ret | apply x_block_ret | apply x_block_normal | apply x_block_here | apply x_block_out rfl) | refine lWv rfl ?_ | refine l_no rfl ?_ | refine tT rfl rfl ?_ | refine tF rfl rfl ?_ | refine lT rfl rfl ?_ | refine lF rfl rfl ?_)
  refine l_alloca rfl rfl fun b4 hb4 => ?_
  (repeat first | with_reducible (first | apply t_seq | apply t_region | apply t_block | apply t_ret | apply t_skip | apply t_exit | apply l_nil | apply x_then | apply x_pass_exit | apply x_pass_ret | apply x_block_ret | apply x_block_normal | apply x_block_here | apply x_block_out rfl) | refine lWv rfl ?_ | refine l_no rfl ?_ | refine tT rfl rfl ?_ | refine tF rfl rfl ?_ | refine lT rfl rfl ?_ | refine lF rfl rfl ?_)
  refine l_ctg rfl rfl (by kernel_rfl) rfl (fun w1 hw1 => blocks_calls s hs w1) fun x hx => ?_
  have hpl : (s ++ padOf s.length).length = s.length + 1 + (119 - s.length % 64) % 64 + 8 := by rw [List.length_append, pad_length]; omega
  have hsF : shaF s = hashL (eatN Kf H8 (s ++ padOf s.length) ((s ++ padOf s.length).length / 64)) := rfl
  rw [hsF]
  have hmod : (s ++ padOf s.length).length % 64 = 0 := by omega
  have hle : (s ++ padOf s.length).length ≤ 1000100 := by omega
  have hpos : 64 ≤ (s ++ padOf s.length).length := by omega
  generalize s ++ padOf s.length = P at hmod hle hpos ⊢
  obtain ⟨e, he⟩ : ∃ e, P.length / 64 = e := ⟨_, rfl⟩
  have hn : P.length / 4 = 16 * e := by omega
  rw [he, hn]
  (repeat first | with_reducible (first | apply t_seq | apply t_region | apply t_block | apply t_ret | apply t_skip | apply t_exit | apply l_nil | apply x_then | apply x_pass_exit | apply x_pass_ret | apply x_block_ret | apply x_block_normal | apply x_block_here | apply x_block_out rfl) | refine lWv rfl ?_ | refine l_no rfl ?_ | refine tT rfl rfl ?_ | refine tF rfl rfl ?_ | refine lT rfl rfl ?_ | refine lF rfl rfl ?_)
  refine t_fact (fun w' hw' => own_val (hw'.item (own 29 1 x (16 * e) (wordsL P (16 * e))) (by simp)).1) fun ⟨hv, hc⟩ => ?_
  obtain ⟨pb, pc, rfl⟩ : ∃ b c, x = some (b, c) := by
    cases x with
    | none => rw [show slC none = 0 from rfl] at hc; omega
    | some bc => exact ⟨bc.1, bc.2, rfl⟩
  rw [hv]
  refine t_for (α := Nat) (fun j => [(2, .pointer (some ⟨b2, 0, none⟩)), (4, .pointer (some ⟨b4, 0, none⟩)), (5, .slice (slA (some (pb, pc))) (16 * e) (slC (some (pb, pc)))), (6, .int .i64 (16 * j : Nat))]) (fun j => j ≤ e)
    (fun j => [tbI b2 (l8 (eatN Kf H8 P j)), own 29 1 (some (pb, pc)) (16 * e) (wordsL P (16 * e)), pt b4 (.cells (bytesV (List.replicate 32 0)).toArray 23 (0, 0))]) (fun j => e - j) 0 ⟨rfl, rfl, rfl, rfl, trivial⟩ (Nat.zero_le _) (fun w' hw' => hw'.pick [2, 0, 1] rfl rfl) fun j hj => ?_
  by_cases hj2 : j < e
  · have hnx : eatN Kf H8 P (j + 1) = (eatN Kf H8 P j).add (runs Kf (sched fun i => wordAt P (16 * j + i)) (eatN Kf H8 P j) 64) := rfl
    generalize eatN Kf H8 P j = v at hnx ⊢
    obtain ⟨m, hm⟩ : ∃ m : Nat → W32, (fun i => wordAt P (16 * j + i)) = m := ⟨_, rfl⟩
    have hmi : ∀ i, i < 16 → wordAt P (16 * j + i) = m i := fun i _ => by rw [← hm]
    rw [hm] at hnx
    (repeat first | with_reducible (first | apply t_seq | apply t_region | apply t_block | apply t_ret | apply t_skip | apply t_exit | apply l_nil | apply x_then | apply x_pass_exit | apply x_pass_ret | apply x_block_ret | apply x_block_normal | apply x_block_here | apply x_block_out rfl) | refine lWv rfl ?_ | refine l_no rfl ?_ | refine tT rfl rfl ?_ | refine tF rfl rfl ?_ | refine lT rfl rfl ?_ | refine lF rfl rfl ?_)
    refine l_alloca rfl rfl fun b7 hb7 => ?_
    (repeat first | with_reducible (first | apply t_seq | apply t_region | apply t_block | apply t_ret | apply t_skip | apply t_exit | apply l_nil | apply x_then | apply x_pass_exit | apply x_pass_ret | apply x_block_ret | apply x_block_normal | apply x_block_here | apply x_block_out rfl) | refine lWv rfl ?_ | refine l_no rfl ?_ | refine tT rfl rfl ?_ | refine tF rfl rfl ?_ | refine lT rfl rfl ?_ | refine lF rfl rfl ?_)
    refine t_for (α := Nat) (fun k => [(2, .pointer (some ⟨b2, 0, none⟩)), (4, .pointer (some ⟨b4, 0, none⟩)), (5, .slice (slA (some (pb, pc))) (16 * e) (slC (some (pb, pc)))), (6, .int .i64 (16 * j : Nat)), (7, .pointer (some ⟨b7, 0, none⟩)), (8, .int .i64 k)]) (fun k => k ≤ 64)
      (fun k => [pt b7 (.cells (partW 64 (fun i => w32 (sched m i)) (.int .u32 0) k).toArray 30 (0, 0)), tbI b2 (l8 v), own 29 1 (some (pb, pc)) (16 * e) (wordsL P (16 * e)), pt b4 (.cells (bytesV (List.replicate 32 0)).toArray 23 (0, 0))]) (fun k => 64 - k) 0 ⟨rfl, rfl, rfl, rfl, rfl, rfl, trivial⟩ (Nat.zero_le _) (fun w' hw' => hw') fun k hk => ?_
    have hwl := partW_len 64 (fun i => w32 (sched m i)) (.int .u32 0) k
    by_cases hk2 : k < 64
    · have hup := partW_up (fun i => w32 (sched m i)) (.int .u32 0) hk2
      by_cases h16 : k < 16
      · have hlow := sched_low m h16
        (repeat first | with_reducible (first | apply t_seq | apply t_region | apply t_block | apply t_ret | apply t_skip | apply t_exit | apply l_nil | apply x_then | apply x_pass_exit | apply x_pass_ret | apply x_block_ret | apply x_block_normal | apply x_block_here | apply x_block_out rfl) | refine lWv rfl ?_ | refine l_no rfl ?_ | refine tT rfl rfl ?_ | refine tF rfl rfl ?_ | refine lT rfl rfl ?_ | refine lF rfl rfl ?_)
        refine l_w rfl (v_load rfl rfl (fun w' hw' => by rw [Nat.zero_add]; exact own_rd (hw'.item _ (.tail _ (.tail _ (.head _)))).1 (16 * j + k) _ (wordsL_at P (by omega)))) ?_
        rw [hmi k h16, ← hlow]
        (repeat first | with_reducible (first | apply t_seq | apply t_region | apply t_block | apply t_ret | apply t_skip | apply t_exit | apply l_nil | apply x_then | apply x_pass_exit | apply x_pass_ret | apply x_block_ret | apply x_block_normal | apply x_block_here | apply x_block_out rfl) | refine lWv rfl ?_ | refine l_no rfl ?_ | refine tT rfl rfl ?_ | refine tF rfl rfl ?_ | refine lT rfl rfl ?_ | refine lF rfl rfl ?_)
        refine l_op rfl (o_store1 rfl rfl rfl rfl rfl rfl (by rw [List.size_toArray, hwl]; omega)) fun _ => ?_
        rw [Nat.zero_add, List.setIfInBounds_toArray, hup]
        (repeat first | with_reducible (first | apply t_seq | apply t_region | apply t_block | apply t_ret | apply t_skip | apply t_exit | apply l_nil | apply x_then | apply x_pass_exit | apply x_pass_ret | apply x_block_ret | apply x_block_normal | apply x_block_here | apply x_block_out rfl) | refine lWv rfl ?_ | refine l_no rfl ?_ | refine tT rfl rfl ?_ | refine tF rfl rfl ?_ | refine lT rfl rfl ?_ | refine lF rfl rfl ?_)
        exact x_round (k + 1) ⟨rfl, rfl, rfl, rfl, rfl, rfl, trivial⟩ hk2 (fun w' hw' => hw') (by omega)
      · have hupm := sched_up m (i := k) (by omega)
        have hupm' : sched m k = sched m (k - 16) + (rotr (sched m (k - 15)) 7 ^^^ rotr (sched m (k - 15)) 18 ^^^ sched m (k - 15) >>> 3) + sched m (k - 7) + (rotr (sched m (k - 2)) 17 ^^^ rotr (sched m (k - 2)) 19 ^^^ sched m (k - 2) >>> 10) := hupm
        have hat : ∀ i, i < k → (partW 64 (fun i => w32 (sched m i)) (.int .u32 0) k).toArray[0 + i]? = some (w32 (sched m i)) := fun i hi => by
          rw [Nat.zero_add, List.getElem?_toArray]; exact partW_at hi hk
        (repeat first | with_reducible (first | apply t_seq | apply t_region | apply t_block | apply t_ret | apply t_skip | apply t_exit | apply l_nil | apply x_then | apply x_pass_exit | apply x_pass_ret | apply x_block_ret | apply x_block_normal | apply x_block_here | apply x_block_out rfl) | refine lWv rfl ?_ | refine l_no rfl ?_ | refine tT rfl rfl ?_ | refine tF rfl rfl ?_ | refine lT rfl rfl ?_ | refine lF rfl rfl ?_)
        refine t_drawm [0, 1, 2, 3] 18 rfl rfl (by kernel_rfl) ?_
        (repeat first | refine dWv [3, 8, 14] rfl rfl rfl ?_ | refine dno [3, 8, 14] rfl rfl rfl ?_ | refine dT [3, 8, 14] rfl rfl rfl rfl ?_ | refine dF [3, 8, 14] rfl rfl rfl rfl ?_)
        refine d_v [8, 14] rfl rfl (by kernel_rfl) (fun _ h => by first | exact h | exact Hp.sub h (.cons _ (.refl _)) | exact Hp.sub h (.cons _ (.cons _ (.refl _))) | exact Hp.sub h (.cons _ (.cons _ (.cons _ (.refl _)))) | exact Hp.sub h (.cons _ (.cons _ (.cons _ (.cons _ (.refl _))))) | exact Hp.sub h (.cons _ (.cons _ (.cons _ (.cons _ (.cons _ (.refl _)))))) | exact Hp.sub h (.cons _ (.cons _ (.cons _ (.cons _ (.cons _ (.cons _ (.refl _)))))))) rfl rfl (v_loadp rfl rfl (.head _) (hat (k - 15) (by omega))) ?_
        (repeat first | refine dWv [8, 14] rfl rfl rfl ?_ | refine dno [8, 14] rfl rfl rfl ?_ | refine dT [8, 14] rfl rfl rfl rfl ?_ | refine dF [8, 14] rfl rfl rfl rfl ?_)
        refine d_v [14] rfl rfl (by kernel_rfl) (fun _ h => by first | exact h | exact Hp.sub h (.cons _ (.refl _)) | exact Hp.sub h (.cons _ (.cons _ (.refl _))) | exact Hp.sub h (.cons _ (.cons _ (.cons _ (.refl _)))) | exact Hp.sub h (.cons _ (.cons _ (.cons _ (.cons _ (.refl _))))) | exact Hp.sub h (.cons _ (.cons _ (.cons _ (.cons _ (.cons _ (.refl _)))))) | exact Hp.sub h (.cons _ (.cons _ (.cons _ (.cons _ (.cons _ (.cons _ (.refl _)))))))) rfl rfl (v_loadp rfl rfl (.head _) (hat (k - 15) (by omega))) ?_
        (repeat first | refine dWv [14] rfl rfl rfl ?_ | refine dno [14] rfl rfl rfl ?_ | refine dT [14] rfl rfl rfl rfl ?_ | refine dF [14] rfl rfl rfl rfl ?_)
        refine d_v [] rfl rfl (by kernel_rfl) (fun _ h => by first | exact h | exact Hp.sub h (.cons _ (.refl _)) | exact Hp.sub h (.cons _ (.cons _ (.refl _))) | exact Hp.sub h (.cons _ (.cons _ (.cons _ (.refl _)))) | exact Hp.sub h (.cons _ (.cons _ (.cons _ (.cons _ (.refl _))))) | exact Hp.sub h (.cons _ (.cons _ (.cons _ (.cons _ (.cons _ (.refl _)))))) | exact Hp.sub h (.cons _ (.cons _ (.cons _ (.cons _ (.cons _ (.cons _ (.refl _)))))))) rfl rfl (v_loadp rfl rfl (.head _) (hat (k - 15) (by omega))) ?_
        (repeat first | refine dWv [] rfl rfl rfl ?_ | refine dno [] rfl rfl rfl ?_ | refine dT [] rfl rfl rfl rfl ?_ | refine dF [] rfl rfl rfl rfl ?_)
        refine d_opg 4 ⟨by kernel_rfl, by decide⟩ rfl rfl (o_pure rfl (by kernel_rfl) rfl (fun w1 hw1 => rrotr_calls _ 7 (by decide) w1)) (fun _ _ h => by first | exact h | exact Hp.sub h (.cons _ (.refl _)) | exact Hp.sub h (.cons _ (.cons _ (.refl _))) | exact Hp.sub h (.cons _ (.cons _ (.cons _ (.refl _)))) | exact Hp.sub h (.cons _ (.cons _ (.cons _ (.cons _ (.refl _))))) | exact Hp.sub h (.cons _ (.cons _ (.cons _ (.cons _ (.cons _ (.refl _)))))) | exact Hp.sub h (.cons _ (.cons _ (.cons _ (.cons _ (.cons _ (.cons _ (.refl _)))))))) fun _ => ?_
        (repeat first | refine dWv [] rfl rfl rfl ?_ | refine dno [] rfl rfl rfl ?_ | refine dT [] rfl rfl rfl rfl ?_ | refine dF [] rfl rfl rfl rfl ?_)
        refine d_opg 9 ⟨by kernel_rfl, by decide⟩ rfl rfl (o_pure rfl (by kernel_rfl) rfl (fun w1 hw1 => rrotr_calls _ 18 (by decide) w1)) (fun _ _ h => by first | exact h | exact Hp.sub h (.cons _ (.refl _)) | exact Hp.sub h (.cons _ (.cons _ (.refl _))) | exact Hp.sub h (.cons _ (.cons _ (.cons _ (.refl _)))) | exact Hp.sub h (.cons _ (.cons _ (.cons _ (.cons _ (.refl _))))) | exact Hp.sub h (.cons _ (.cons _ (.cons _ (.cons _ (.cons _ (.refl _)))))) | exact Hp.sub h (.cons _ (.cons _ (.cons _ (.cons _ (.cons _ (.cons _ (.refl _)))))))) fun _ => ?_
        (repeat first | refine dWv [] rfl rfl rfl ?_ | refine dno [] rfl rfl rfl ?_ | refine dT [] rfl rfl rfl rfl ?_ | refine dF [] rfl rfl rfl rfl ?_)
        refine d_end (by kernel_rfl) ?_
        (repeat first | with_reducible (first | apply t_seq | apply t_region | apply t_block | apply t_ret | apply t_skip | apply t_exit | apply l_nil | apply x_then | apply x_pass_exit | apply x_pass_ret | apply x_block_ret | apply x_block_normal | apply x_block_here | apply x_block_out rfl) | refine lWv rfl ?_ | refine l_no rfl ?_ | refine tT rfl rfl ?_ | refine tF rfl rfl ?_ | refine lT rfl rfl ?_ | refine lF rfl rfl ?_)
        refine t_drawm [0, 1, 2, 3] 18 rfl rfl (by kernel_rfl) ?_
        (repeat first | refine dWv [3, 8, 14] rfl rfl rfl ?_ | refine dno [3, 8, 14] rfl rfl rfl ?_ | refine dT [3, 8, 14] rfl rfl rfl rfl ?_ | refine dF [3, 8, 14] rfl rfl rfl rfl ?_)
        refine d_v [8, 14] rfl rfl (by kernel_rfl) (fun _ h => by first | exact h | exact Hp.sub h (.cons _ (.refl _)) | exact Hp.sub h (.cons _ (.cons _ (.refl _))) | exact Hp.sub h (.cons _ (.cons _ (.cons _ (.refl _)))) | exact Hp.sub h (.cons _ (.cons _ (.cons _ (.cons _ (.refl _))))) | exact Hp.sub h (.cons _ (.cons _ (.cons _ (.cons _ (.cons _ (.refl _)))))) | exact Hp.sub h (.cons _ (.cons _ (.cons _ (.cons _ (.cons _ (.cons _ (.refl _)))))))) rfl rfl (v_loadp rfl rfl (.head _) (hat (k - 2) (by omega))) ?_
        (repeat first | refine dWv [8, 14] rfl rfl rfl ?_ | refine dno [8, 14] rfl rfl rfl ?_ | refine dT [8, 14] rfl rfl rfl rfl ?_ | refine dF [8, 14] rfl rfl rfl rfl ?_)
        refine d_v [14] rfl rfl (by kernel_rfl) (fun _ h => by first | exact h | exact Hp.sub h (.cons _ (.refl _)) | exact Hp.sub h (.cons _ (.cons _ (.refl _))) | exact Hp.sub h (.cons _ (.cons _ (.cons _ (.refl _)))) | exact Hp.sub h (.cons _ (.cons _ (.cons _ (.cons _ (.refl _))))) | exact Hp.sub h (.cons _ (.cons _ (.cons _ (.cons _ (.cons _ (.refl _)))))) | exact Hp.sub h (.cons _ (.cons _ (.cons _ (.cons _ (.cons _ (.cons _ (.refl _)))))))) rfl rfl (v_loadp rfl rfl (.head _) (hat (k - 2) (by omega))) ?_
        (repeat first | refine dWv [14] rfl rfl rfl ?_ | refine dno [14] rfl rfl rfl ?_ | refine dT [14] rfl rfl rfl rfl ?_ | refine dF [14] rfl rfl rfl rfl ?_)
        refine d_v [] rfl rfl (by kernel_rfl) (fun _ h => by first | exact h | exact Hp.sub h (.cons _ (.refl _)) | exact Hp.sub h (.cons _ (.cons _ (.refl _))) | exact Hp.sub h (.cons _ (.cons _ (.cons _ (.refl _)))) | exact Hp.sub h (.cons _ (.cons _ (.cons _ (.cons _ (.refl _))))) | exact Hp.sub h (.cons _ (.cons _ (.cons _ (.cons _ (.cons _ (.refl _)))))) | exact Hp.sub h (.cons _ (.cons _ (.cons _ (.cons _ (.cons _ (.cons _ (.refl _)))))))) rfl rfl (v_loadp rfl rfl (.head _) (hat (k - 2) (by omega))) ?_
        (repeat first | refine dWv [] rfl rfl rfl ?_ | refine dno [] rfl rfl rfl ?_ | refine dT [] rfl rfl rfl rfl ?_ | refine dF [] rfl rfl rfl rfl ?_)
        refine d_opg 4 ⟨by kernel_rfl, by decide⟩ rfl rfl (o_pure rfl (by kernel_rfl) rfl (fun w1 hw1 => rrotr_calls _ 17 (by decide) w1)) (fun _ _ h => by first | exact h | exact Hp.sub h (.cons _ (.refl _)) | exact Hp.sub h (.cons _ (.cons _ (.refl _))) | exact Hp.sub h (.cons _ (.cons _ (.cons _ (.refl _)))) | exact Hp.sub h (.cons _ (.cons _ (.cons _ (.cons _ (.refl _))))) | exact Hp.sub h (.cons _ (.cons _ (.cons _ (.cons _ (.cons _ (.refl _)))))) | exact Hp.sub h (.cons _ (.cons _ (.cons _ (.cons _ (.cons _ (.cons _ (.refl _)))))))) fun _ => ?_
        (repeat first | refine dWv [] rfl rfl rfl ?_ | refine dno [] rfl rfl rfl ?_ | refine dT [] rfl rfl rfl rfl ?_ | refine dF [] rfl rfl rfl rfl ?_)
        refine d_opg 9 ⟨by kernel_rfl, by decide⟩ rfl rfl (o_pure rfl (by kernel_rfl) rfl (fun w1 hw1 => rrotr_calls _ 19 (by decide) w1)) (fun _ _ h => by first | exact h | exact Hp.sub h (.cons _ (.refl _)) | exact Hp.sub h (.cons _ (.cons _ (.refl _))) | exact Hp.sub h (.cons _ (.cons _ (.cons _ (.refl _)))) | exact Hp.sub h (.cons _ (.cons _ (.cons _ (.cons _ (.refl _))))) | exact Hp.sub h (.cons _ (.cons _ (.cons _ (.cons _ (.cons _ (.refl _)))))) | exact Hp.sub h (.cons _ (.cons _ (.cons _ (.cons _ (.cons _ (.cons _ (.refl _)))))))) fun _ => ?_
        (repeat first | refine dWv [] rfl rfl rfl ?_ | refine dno [] rfl rfl rfl ?_ | refine dT [] rfl rfl rfl rfl ?_ | refine dF [] rfl rfl rfl rfl ?_)
        refine d_end (by kernel_rfl) ?_
        (repeat first | with_reducible (first | apply t_seq | apply t_region | apply t_block | apply t_ret | apply t_skip | apply t_exit | apply l_nil | apply x_then | apply x_pass_exit | apply x_pass_ret | apply x_block_ret | apply x_block_normal | apply x_block_here | apply x_block_out rfl) | refine lWv rfl ?_ | refine l_no rfl ?_ | refine tT rfl rfl ?_ | refine tF rfl rfl ?_ | refine lT rfl rfl ?_ | refine lF rfl rfl ?_)
        refine t_drawm [0, 1, 2, 3] 15 rfl rfl (by kernel_rfl) ?_
        (repeat first | refine dWv [4, 10] rfl rfl rfl ?_ | refine dno [4, 10] rfl rfl rfl ?_ | refine dT [4, 10] rfl rfl rfl rfl ?_ | refine dF [4, 10] rfl rfl rfl rfl ?_)
        refine d_v [10] rfl rfl (by kernel_rfl) (fun _ h => by first | exact h | exact Hp.sub h (.cons _ (.refl _)) | exact Hp.sub h (.cons _ (.cons _ (.refl _))) | exact Hp.sub h (.cons _ (.cons _ (.cons _ (.refl _)))) | exact Hp.sub h (.cons _ (.cons _ (.cons _ (.cons _ (.refl _))))) | exact Hp.sub h (.cons _ (.cons _ (.cons _ (.cons _ (.cons _ (.refl _)))))) | exact Hp.sub h (.cons _ (.cons _ (.cons _ (.cons _ (.cons _ (.cons _ (.refl _)))))))) rfl rfl (v_loadp rfl rfl (.head _) (hat (k - 16) (by omega))) ?_
        (repeat first | refine dWv [10] rfl rfl rfl ?_ | refine dno [10] rfl rfl rfl ?_ | refine dT [10] rfl rfl rfl rfl ?_ | refine dF [10] rfl rfl rfl rfl ?_)
        refine d_v [] rfl rfl (by kernel_rfl) (fun _ h => by first | exact h | exact Hp.sub h (.cons _ (.refl _)) | exact Hp.sub h (.cons _ (.cons _ (.refl _))) | exact Hp.sub h (.cons _ (.cons _ (.cons _ (.refl _)))) | exact Hp.sub h (.cons _ (.cons _ (.cons _ (.cons _ (.refl _))))) | exact Hp.sub h (.cons _ (.cons _ (.cons _ (.cons _ (.cons _ (.refl _)))))) | exact Hp.sub h (.cons _ (.cons _ (.cons _ (.cons _ (.cons _ (.cons _ (.refl _)))))))) rfl rfl (v_loadp rfl rfl (.head _) (hat (k - 7) (by omega))) ?_
        (repeat first | refine dWv [] rfl rfl rfl ?_ | refine dno [] rfl rfl rfl ?_ | refine dT [] rfl rfl rfl rfl ?_ | refine dF [] rfl rfl rfl rfl ?_)
        rw [← hupm']
        refine d_tail ⟨by kernel_rfl, by kernel_rfl⟩ rfl rfl (o_store1 rfl rfl rfl rfl rfl rfl (by rw [List.size_toArray, hwl]; omega)) fun _ => ?_
        rw [Nat.zero_add, List.setIfInBounds_toArray, hup]
        (repeat first | with_reducible (first | apply t_seq | apply t_region | apply t_block | apply t_ret | apply t_skip | apply t_exit | apply l_nil | apply x_then | apply x_pass_exit | apply x_pass_ret | apply x_block_ret | apply x_block_normal | apply x_block_here | apply x_block_out rfl) | refine lWv rfl ?_ | refine l_no rfl ?_ | refine tT rfl rfl ?_ | refine tF rfl rfl ?_ | refine lT rfl rfl ?_ | refine lF rfl rfl ?_)
        exact x_round (k + 1) ⟨rfl, rfl, rfl, rfl, rfl, rfl, trivial⟩ hk2 (fun w' hw' => hw') (by omega)
    · obtain rfl : k = 64 := by omega
      have hHa : (tbC (l8 v)).toArray[64 + 0]? = some (w32 v.a) := (tb_Ha _ 0).trans rfl
      have hHb : (tbC (l8 v)).toArray[64 + 1]? = some (w32 v.b) := (tb_Ha _ 1).trans rfl
      have hHc : (tbC (l8 v)).toArray[64 + 2]? = some (w32 v.c) := (tb_Ha _ 2).trans rfl
      have hHd : (tbC (l8 v)).toArray[64 + 3]? = some (w32 v.d) := (tb_Ha _ 3).trans rfl
      have hHe : (tbC (l8 v)).toArray[64 + 4]? = some (w32 v.e) := (tb_Ha _ 4).trans rfl
      have hHf : (tbC (l8 v)).toArray[64 + 5]? = some (w32 v.f) := (tb_Ha _ 5).trans rfl
      have hHg : (tbC (l8 v)).toArray[64 + 6]? = some (w32 v.g) := (tb_Ha _ 6).trans rfl
      have hHh : (tbC (l8 v)).toArray[64 + 7]? = some (w32 v.h) := (tb_Ha _ 7).trans rfl
      have hlW : ∀ i, i < 64 → (partW 64 (fun i => w32 (sched m i)) (.int .u32 0) 64).toArray[0 + i]? = some (w32 (sched m i)) := fun i hi => by
        rw [Nat.zero_add, List.getElem?_toArray]; exact partW_at hi (Nat.le_refl _)
      generalize partW 64 (fun i => w32 (sched m i)) (.int .u32 0) 64 = W at hlW ⊢
      (repeat first | with_reducible (first | apply t_seq | apply t_region | apply t_block | apply t_ret | apply t_skip | apply t_exit | apply l_nil | apply x_then | apply x_pass_exit | apply x_pass_ret | apply x_block_ret | apply x_block_normal | apply x_block_here | apply x_block_out rfl) | refine lWv rfl ?_ | refine l_no rfl ?_ | refine tT rfl rfl ?_ | refine tF rfl rfl ?_ | refine lT rfl rfl ?_ | refine lF rfl rfl ?_)
      refine t_drawm [0, 1, 2, 3] 32 rfl rfl (by kernel_rfl) ?_
      (repeat first | refine dWv [2, 5, 8, 11, 14, 17, 20, 23] rfl rfl rfl ?_ | refine dno [2, 5, 8, 11, 14, 17, 20, 23] rfl rfl rfl ?_ | refine dT [2, 5, 8, 11, 14, 17, 20, 23] rfl rfl rfl rfl ?_ | refine dF [2, 5, 8, 11, 14, 17, 20, 23] rfl rfl rfl rfl ?_)
      refine d_v [5, 8, 11, 14, 17, 20, 23] rfl rfl (by kernel_rfl) (fun _ h => by first | exact h | exact Hp.sub h (.cons _ (.refl _)) | exact Hp.sub h (.cons _ (.cons _ (.refl _))) | exact Hp.sub h (.cons _ (.cons _ (.cons _ (.refl _)))) | exact Hp.sub h (.cons _ (.cons _ (.cons _ (.cons _ (.refl _))))) | exact Hp.sub h (.cons _ (.cons _ (.cons _ (.cons _ (.cons _ (.refl _)))))) | exact Hp.sub h (.cons _ (.cons _ (.cons _ (.cons _ (.cons _ (.cons _ (.refl _)))))))) rfl rfl (v_loadp rfl rfl (.tail _ (.head _)) hHa) ?_
      (repeat first | refine dWv [5, 8, 11, 14, 17, 20, 23] rfl rfl rfl ?_ | refine dno [5, 8, 11, 14, 17, 20, 23] rfl rfl rfl ?_ | refine dT [5, 8, 11, 14, 17, 20, 23] rfl rfl rfl rfl ?_ | refine dF [5, 8, 11, 14, 17, 20, 23] rfl rfl rfl rfl ?_)
      refine d_v [8, 11, 14, 17, 20, 23] rfl rfl (by kernel_rfl) (fun _ h => by first | exact h | exact Hp.sub h (.cons _ (.refl _)) | exact Hp.sub h (.cons _ (.cons _ (.refl _))) | exact Hp.sub h (.cons _ (.cons _ (.cons _ (.refl _)))) | exact Hp.sub h (.cons _ (.cons _ (.cons _ (.cons _ (.refl _))))) | exact Hp.sub h (.cons _ (.cons _ (.cons _ (.cons _ (.cons _ (.refl _)))))) | exact Hp.sub h (.cons _ (.cons _ (.cons _ (.cons _ (.cons _ (.cons _ (.refl _)))))))) rfl rfl (v_loadp rfl rfl (.tail _ (.head _)) hHb) ?_
      (repeat first | refine dWv [8, 11, 14, 17, 20, 23] rfl rfl rfl ?_ | refine dno [8, 11, 14, 17, 20, 23] rfl rfl rfl ?_ | refine dT [8, 11, 14, 17, 20, 23] rfl rfl rfl rfl ?_ | refine dF [8, 11, 14, 17, 20, 23] rfl rfl rfl rfl ?_)
      refine d_v [11, 14, 17, 20, 23] rfl rfl (by kernel_rfl) (fun _ h => by first | exact h | exact Hp.sub h (.cons _ (.refl _)) | exact Hp.sub h (.cons _ (.cons _ (.refl _))) | exact Hp.sub h (.cons _ (.cons _ (.cons _ (.refl _)))) | exact Hp.sub h (.cons _ (.cons _ (.cons _ (.cons _ (.refl _))))) | exact Hp.sub h (.cons _ (.cons _ (.cons _ (.cons _ (.cons _ (.refl _)))))) | exact Hp.sub h (.cons _ (.cons _ (.cons _ (.cons _ (.cons _ (.cons _ (.refl _)))))))) rfl rfl (v_loadp rfl rfl (.tail _ (.head _)) hHc) ?_
      (repeat first | refine dWv [11, 14, 17, 20, 23] rfl rfl rfl ?_ | refine dno [11, 14, 17, 20, 23] rfl rfl rfl ?_ | refine dT [11, 14, 17, 20, 23] rfl rfl rfl rfl ?_ | refine dF [11, 14, 17, 20, 23] rfl rfl rfl rfl ?_)
      refine d_v [14, 17, 20, 23] rfl rfl (by kernel_rfl) (fun _ h => by first | exact h | exact Hp.sub h (.cons _ (.refl _)) | exact Hp.sub h (.cons _ (.cons _ (.refl _))) | exact Hp.sub h (.cons _ (.cons _ (.cons _ (.refl _)))) | exact Hp.sub h (.cons _ (.cons _ (.cons _ (.cons _ (.refl _))))) | exact Hp.sub h (.cons _ (.cons _ (.cons _ (.cons _ (.cons _ (.refl _)))))) | exact Hp.sub h (.cons _ (.cons _ (.cons _ (.cons _ (.cons _ (.cons _ (.refl _)))))))) rfl rfl (v_loadp rfl rfl (.tail _ (.head _)) hHd) ?_
      (repeat first | refine dWv [14, 17, 20, 23] rfl rfl rfl ?_ | refine dno [14, 17, 20, 23] rfl rfl rfl ?_ | refine dT [14, 17, 20, 23] rfl rfl rfl rfl ?_ | refine dF [14, 17, 20, 23] rfl rfl rfl rfl ?_)
      refine d_v [17, 20, 23] rfl rfl (by kernel_rfl) (fun _ h => by first | exact h | exact Hp.sub h (.cons _ (.refl _)) | exact Hp.sub h (.cons _ (.cons _ (.refl _))) | exact Hp.sub h (.cons _ (.cons _ (.cons _ (.refl _)))) | exact Hp.sub h (.cons _ (.cons _ (.cons _ (.cons _ (.refl _))))) | exact Hp.sub h (.cons _ (.cons _ (.cons _ (.cons _ (.cons _ (.refl _)))))) | exact Hp.sub h (.cons _ (.cons _ (.cons _ (.cons _ (.cons _ (.cons _ (.refl _)))))))) rfl rfl (v_loadp rfl rfl (.tail _ (.head _)) hHe) ?_
      (repeat first | refine dWv [17, 20, 23] rfl rfl rfl ?_ | refine dno [17, 20, 23] rfl rfl rfl ?_ | refine dT [17, 20, 23] rfl rfl rfl rfl ?_ | refine dF [17, 20, 23] rfl rfl rfl rfl ?_)
      refine d_v [20, 23] rfl rfl (by kernel_rfl) (fun _ h => by first | exact h | exact Hp.sub h (.cons _ (.refl _)) | exact Hp.sub h (.cons _ (.cons _ (.refl _))) | exact Hp.sub h (.cons _ (.cons _ (.cons _ (.refl _)))) | exact Hp.sub h (.cons _ (.cons _ (.cons _ (.cons _ (.refl _))))) | exact Hp.sub h (.cons _ (.cons _ (.cons _ (.cons _ (.cons _ (.refl _)))))) | exact Hp.sub h (.cons _ (.cons _ (.cons _ (.cons _ (.cons _ (.cons _ (.refl _)))))))) rfl rfl (v_loadp rfl rfl (.tail _ (.head _)) hHf) ?_
      (repeat first | refine dWv [20, 23] rfl rfl rfl ?_ | refine dno [20, 23] rfl rfl rfl ?_ | refine dT [20, 23] rfl rfl rfl rfl ?_ | refine dF [20, 23] rfl rfl rfl rfl ?_)
      refine d_v [23] rfl rfl (by kernel_rfl) (fun _ h => by first | exact h | exact Hp.sub h (.cons _ (.refl _)) | exact Hp.sub h (.cons _ (.cons _ (.refl _))) | exact Hp.sub h (.cons _ (.cons _ (.cons _ (.refl _)))) | exact Hp.sub h (.cons _ (.cons _ (.cons _ (.cons _ (.refl _))))) | exact Hp.sub h (.cons _ (.cons _ (.cons _ (.cons _ (.cons _ (.refl _)))))) | exact Hp.sub h (.cons _ (.cons _ (.cons _ (.cons _ (.cons _ (.cons _ (.refl _)))))))) rfl rfl (v_loadp rfl rfl (.tail _ (.head _)) hHg) ?_
      (repeat first | refine dWv [23] rfl rfl rfl ?_ | refine dno [23] rfl rfl rfl ?_ | refine dT [23] rfl rfl rfl rfl ?_ | refine dF [23] rfl rfl rfl rfl ?_)
      refine d_v [] rfl rfl (by kernel_rfl) (fun _ h => by first | exact h | exact Hp.sub h (.cons _ (.refl _)) | exact Hp.sub h (.cons _ (.cons _ (.refl _))) | exact Hp.sub h (.cons _ (.cons _ (.cons _ (.refl _)))) | exact Hp.sub h (.cons _ (.cons _ (.cons _ (.cons _ (.refl _))))) | exact Hp.sub h (.cons _ (.cons _ (.cons _ (.cons _ (.cons _ (.refl _)))))) | exact Hp.sub h (.cons _ (.cons _ (.cons _ (.cons _ (.cons _ (.cons _ (.refl _)))))))) rfl rfl (v_loadp rfl rfl (.tail _ (.head _)) hHh) ?_
      (repeat first | refine dWv [] rfl rfl rfl ?_ | refine dno [] rfl rfl rfl ?_ | refine dT [] rfl rfl rfl rfl ?_ | refine dF [] rfl rfl rfl rfl ?_)
      refine d_end (by kernel_rfl) ?_
      (repeat first | with_reducible (first | apply t_seq | apply t_region | apply t_block | apply t_ret | apply t_skip | apply t_exit | apply l_nil | apply x_then | apply x_pass_exit | apply x_pass_ret | apply x_block_ret | apply x_block_normal | apply x_block_here | apply x_block_out rfl) | refine lWv rfl ?_ | refine l_no rfl ?_ | refine tT rfl rfl ?_ | refine tF rfl rfl ?_ | refine lT rfl rfl ?_ | refine lF rfl rfl ?_)
      refine t_for (α := Nat) (fun k => [(2, .pointer (some ⟨b2, 0, none⟩)), (4, .pointer (some ⟨b4, 0, none⟩)), (5, .slice (slA (some (pb, pc))) (16 * e) (slC (some (pb, pc)))), (6, .int .i64 (16 * j : Nat)), (7, .pointer (some ⟨b7, 0, none⟩)), (11, w32 (runs Kf (sched m) v k).a), (12, w32 (runs Kf (sched m) v k).b), (13, w32 (runs Kf (sched m) v k).c), (14, w32 (runs Kf (sched m) v k).d), (15, w32 (runs Kf (sched m) v k).e), (16, w32 (runs Kf (sched m) v k).f), (17, w32 (runs Kf (sched m) v k).g), (18, w32 (runs Kf (sched m) v k).h), (19, .int .i64 k)]) (fun k => k ≤ 64)
        (fun k => [pt b7 (.cells W.toArray 30 (0, 0)), tbI b2 (l8 v), own 29 1 (some (pb, pc)) (16 * e) (wordsL P (16 * e)), pt b4 (.cells (bytesV (List.replicate 32 0)).toArray 23 (0, 0))]) (fun k => 64 - k) 0 ⟨rfl, rfl, rfl, rfl, rfl, rfl, rfl, rfl, rfl, rfl, rfl, rfl, rfl, rfl, trivial⟩ (Nat.zero_le _) (fun w' hw' => hw') fun k hk => ?_
      by_cases hk2 : k < 64
      · have hu2 : runs Kf (sched m) v (k + 1) = rnd (runs Kf (sched m) v k) (Kf k) (sched m k) := rfl
        generalize runs Kf (sched m) v k = u at hu2 ⊢
        have hK : (tbC (l8 v)).toArray[0 + k]? = some (w32 (Kf k)) := by rw [Nat.zero_add, List.getElem?_toArray]; exact tb_K _ hk2
        have hWk := hlW k hk2
        (repeat first | with_reducible (first | apply t_seq | apply t_region | apply t_block | apply t_ret | apply t_skip | apply t_exit | apply l_nil | apply x_then | apply x_pass_exit | apply x_pass_ret | apply x_block_ret | apply x_block_normal | apply x_block_here | apply x_block_out rfl) | refine lWv rfl ?_ | refine l_no rfl ?_ | refine tT rfl rfl ?_ | refine tF rfl rfl ?_ | refine lT rfl rfl ?_ | refine lF rfl rfl ?_)
        refine t_drawm [0, 1, 2, 3] 29 rfl rfl (by kernel_rfl) ?_
        (repeat first | refine dWv [22, 26] rfl rfl rfl ?_ | refine dno [22, 26] rfl rfl rfl ?_ | refine dT [22, 26] rfl rfl rfl rfl ?_ | refine dF [22, 26] rfl rfl rfl rfl ?_)
        refine d_v [26] rfl rfl (by kernel_rfl) (fun _ h => by first | exact h | exact Hp.sub h (.cons _ (.refl _)) | exact Hp.sub h (.cons _ (.cons _ (.refl _))) | exact Hp.sub h (.cons _ (.cons _ (.cons _ (.refl _)))) | exact Hp.sub h (.cons _ (.cons _ (.cons _ (.cons _ (.refl _))))) | exact Hp.sub h (.cons _ (.cons _ (.cons _ (.cons _ (.cons _ (.refl _)))))) | exact Hp.sub h (.cons _ (.cons _ (.cons _ (.cons _ (.cons _ (.cons _ (.refl _)))))))) rfl rfl (v_loadp rfl rfl (.tail _ (.head _)) hK) ?_
        (repeat first | refine dWv [26] rfl rfl rfl ?_ | refine dno [26] rfl rfl rfl ?_ | refine dT [26] rfl rfl rfl rfl ?_ | refine dF [26] rfl rfl rfl rfl ?_)
        refine d_v [] rfl rfl (by kernel_rfl) (fun _ h => by first | exact h | exact Hp.sub h (.cons _ (.refl _)) | exact Hp.sub h (.cons _ (.cons _ (.refl _))) | exact Hp.sub h (.cons _ (.cons _ (.cons _ (.refl _)))) | exact Hp.sub h (.cons _ (.cons _ (.cons _ (.cons _ (.refl _))))) | exact Hp.sub h (.cons _ (.cons _ (.cons _ (.cons _ (.cons _ (.refl _)))))) | exact Hp.sub h (.cons _ (.cons _ (.cons _ (.cons _ (.cons _ (.cons _ (.refl _)))))))) rfl rfl (v_loadp rfl rfl (.head _) hWk) ?_
        (repeat first | refine dWv [] rfl rfl rfl ?_ | refine dno [] rfl rfl rfl ?_ | refine dT [] rfl rfl rfl rfl ?_ | refine dF [] rfl rfl rfl rfl ?_)
        refine d_opg 2 ⟨by kernel_rfl, by decide⟩ rfl rfl (o_pure rfl (by kernel_rfl) rfl (fun w1 hw1 => rrotr_calls _ 6 (by decide) w1)) (fun _ _ h => by first | exact h | exact Hp.sub h (.cons _ (.refl _)) | exact Hp.sub h (.cons _ (.cons _ (.refl _))) | exact Hp.sub h (.cons _ (.cons _ (.cons _ (.refl _)))) | exact Hp.sub h (.cons _ (.cons _ (.cons _ (.cons _ (.refl _))))) | exact Hp.sub h (.cons _ (.cons _ (.cons _ (.cons _ (.cons _ (.refl _)))))) | exact Hp.sub h (.cons _ (.cons _ (.cons _ (.cons _ (.cons _ (.cons _ (.refl _)))))))) fun _ => ?_
        (repeat first | refine dWv [] rfl rfl rfl ?_ | refine dno [] rfl rfl rfl ?_ | refine dT [] rfl rfl rfl rfl ?_ | refine dF [] rfl rfl rfl rfl ?_)
        refine d_opg 4 ⟨by kernel_rfl, by decide⟩ rfl rfl (o_pure rfl (by kernel_rfl) rfl (fun w1 hw1 => rrotr_calls _ 11 (by decide) w1)) (fun _ _ h => by first | exact h | exact Hp.sub h (.cons _ (.refl _)) | exact Hp.sub h (.cons _ (.cons _ (.refl _))) | exact Hp.sub h (.cons _ (.cons _ (.cons _ (.refl _)))) | exact Hp.sub h (.cons _ (.cons _ (.cons _ (.cons _ (.refl _))))) | exact Hp.sub h (.cons _ (.cons _ (.cons _ (.cons _ (.cons _ (.refl _)))))) | exact Hp.sub h (.cons _ (.cons _ (.cons _ (.cons _ (.cons _ (.cons _ (.refl _)))))))) fun _ => ?_
        (repeat first | refine dWv [] rfl rfl rfl ?_ | refine dno [] rfl rfl rfl ?_ | refine dT [] rfl rfl rfl rfl ?_ | refine dF [] rfl rfl rfl rfl ?_)
        refine d_opg 7 ⟨by kernel_rfl, by decide⟩ rfl rfl (o_pure rfl (by kernel_rfl) rfl (fun w1 hw1 => rrotr_calls _ 25 (by decide) w1)) (fun _ _ h => by first | exact h | exact Hp.sub h (.cons _ (.refl _)) | exact Hp.sub h (.cons _ (.cons _ (.refl _))) | exact Hp.sub h (.cons _ (.cons _ (.cons _ (.refl _)))) | exact Hp.sub h (.cons _ (.cons _ (.cons _ (.cons _ (.refl _))))) | exact Hp.sub h (.cons _ (.cons _ (.cons _ (.cons _ (.cons _ (.refl _)))))) | exact Hp.sub h (.cons _ (.cons _ (.cons _ (.cons _ (.cons _ (.cons _ (.refl _)))))))) fun _ => ?_
        (repeat first | refine dWv [] rfl rfl rfl ?_ | refine dno [] rfl rfl rfl ?_ | refine dT [] rfl rfl rfl rfl ?_ | refine dF [] rfl rfl rfl rfl ?_)
        refine d_end (by kernel_rfl) ?_
        (repeat first | with_reducible (first | apply t_seq | apply t_region | apply t_block | apply t_ret | apply t_skip | apply t_exit | apply l_nil | apply x_then | apply x_pass_exit | apply x_pass_ret | apply x_block_ret | apply x_block_normal | apply x_block_here | apply x_block_out rfl) | refine lWv rfl ?_ | refine l_no rfl ?_ | refine tT rfl rfl ?_ | refine tF rfl rfl ?_ | refine lT rfl rfl ?_ | refine lF rfl rfl ?_)
        refine l_opg rfl (o_pure rfl (by kernel_rfl) rfl (fun w1 hw1 => rrotr_calls _ 2 (by decide) w1)) fun _ => ?_
        (repeat first | with_reducible (first | apply t_seq | apply t_region | apply t_block | apply t_ret | apply t_skip | apply t_exit | apply l_nil | apply x_then | apply x_pass_exit | apply x_pass_ret | apply x_block_ret | apply x_block_normal | apply x_block_here | apply x_block_out rfl) | refine lWv rfl ?_ | refine l_no rfl ?_ | refine tT rfl rfl ?_ | refine tF rfl rfl ?_ | refine lT rfl rfl ?_ | refine lF rfl rfl ?_)
        refine l_opg rfl (o_pure rfl (by kernel_rfl) rfl (fun w1 hw1 => rrotr_calls _ 13 (by decide) w1)) fun _ => ?_
        (repeat first | with_reducible (first | apply t_seq | apply t_region | apply t_block | apply t_ret | apply t_skip | apply t_exit | apply l_nil | apply x_then | apply x_pass_exit | apply x_pass_ret | apply x_block_ret | apply x_block_normal | apply x_block_here | apply x_block_out rfl) | refine lWv rfl ?_ | refine l_no rfl ?_ | refine tT rfl rfl ?_ | refine tF rfl rfl ?_ | refine lT rfl rfl ?_ | refine lF rfl rfl ?_)
        refine l_opg rfl (o_pure rfl (by kernel_rfl) rfl (fun w1 hw1 => rrotr_calls _ 22 (by decide) w1)) fun _ => ?_
        (repeat first | with_reducible (first | apply t_seq | apply t_region | apply t_block | apply t_ret | apply t_skip | apply t_exit | apply l_nil | apply x_then | apply x_pass_exit | apply x_pass_ret | apply x_block_ret | apply x_block_normal | apply x_block_here | apply x_block_out rfl) | refine lWv rfl ?_ | refine l_no rfl ?_ | refine tT rfl rfl ?_ | refine tF rfl rfl ?_ | refine lT rfl rfl ?_ | refine lF rfl rfl ?_)
        exact x_round (k + 1) ⟨rfl, rfl, rfl, rfl, rfl, by rw [hu2]; rfl, by rw [hu2]; rfl, by rw [hu2]; rfl, by rw [hu2]; rfl, by rw [hu2]; rfl, by rw [hu2]; rfl, by rw [hu2]; rfl, by rw [hu2]; rfl, rfl, trivial⟩ hk2 (fun w' hw' => hw') (by omega)
      · obtain rfl : k = 64 := by omega
        generalize runs Kf (sched m) v 64 = u at hnx ⊢
        (repeat first | with_reducible (first | apply t_seq | apply t_region | apply t_block | apply t_ret | apply t_skip | apply t_exit | apply l_nil | apply x_then | apply x_pass_exit | apply x_pass_ret | apply x_block_ret | apply x_block_normal | apply x_block_here | apply x_block_out rfl) | refine lWv rfl ?_ | refine l_no rfl ?_ | refine tT rfl rfl ?_ | refine tF rfl rfl ?_ | refine lT rfl rfl ?_ | refine lF rfl rfl ?_)
        refine l_w rfl (v_builda rfl rfl rfl rfl rfl) ?_
        refine l_say 193 _ (.agg (l8 u).toArray) rfl rfl ?_
        refine l_alloca rfl rfl fun b22 hb22 => ?_
        refine l_op rfl (o_storea (cs' := (l8 u).toArray) rfl rfl rfl (by rw [List.size_toArray, l8_len]; rfl) (l8_one u) (by rw [List.size_toArray, l8_len]; rfl)) fun _ => ?_
        (repeat first | with_reducible (first | apply t_seq | apply t_region | apply t_block | apply t_ret | apply t_skip | apply t_exit | apply l_nil | apply x_then | apply x_pass_exit | apply x_pass_ret | apply x_block_ret | apply x_block_normal | apply x_block_here | apply x_block_out rfl) | refine lWv rfl ?_ | refine l_no rfl ?_ | refine tT rfl rfl ?_ | refine tF rfl rfl ?_ | refine lT rfl rfl ?_ | refine lF rfl rfl ?_)
        refine t_for (α := Nat) (fun k => [(2, .pointer (some ⟨b2, 0, none⟩)), (4, .pointer (some ⟨b4, 0, none⟩)), (5, .slice (slA (some (pb, pc))) (16 * e) (slC (some (pb, pc)))), (6, .int .i64 (16 * j : Nat)), (22, .pointer (some ⟨b22, 0, none⟩)), (23, .int .i64 k)]) (fun k => k ≤ 8)
          (fun k => [tbI b2 (part8 v.l u.l k), pt b22 (.cells (l8 u).toArray 31 (0, 0)), own 29 1 (some (pb, pc)) (16 * e) (wordsL P (16 * e)), pt b4 (.cells (bytesV (List.replicate 32 0)).toArray 23 (0, 0))]) (fun k => 8 - k) 0 ⟨rfl, rfl, rfl, rfl, rfl, rfl, trivial⟩ (Nat.zero_le _) (fun w' hw' => by
            show Hp w none' [tbI b2 (part8 v.l u.l 0), _, _, _] w'
            rw [part8_0]
            exact hw'.pick [2, 0, 3, 4] rfl rfl) fun k hk => ?_
        by_cases hk8 : k < 8
        · have h1 : (tbC (part8 v.l u.l k)).toArray[64 + k]? = some (w32 (v.l.getD k 0)) := (tb_Ha _ k).trans (part8_at _ _ hk8)
          have h2 : (l8 u).toArray[0 + k]? = some (w32 (u.l.getD k 0)) := by rw [Nat.zero_add, List.getElem?_toArray]; exact l8_at u hk8
          have hup := part8_up v.l u.l hk8
          have hpl8 : (tbC (part8 v.l u.l k)).length = 72 := by rw [tb_len]; simp [part8]
          have hset := tb_set (part8 v.l u.l k) k (w32 (v.l.getD k 0 + u.l.getD k 0))
          rw [hup] at hset
          (repeat first | with_reducible (first | apply t_seq | apply t_region | apply t_block | apply t_ret | apply t_skip | apply t_exit | apply l_nil | apply x_then | apply x_pass_exit | apply x_pass_ret | apply x_block_ret | apply x_block_normal | apply x_block_here | apply x_block_out rfl) | refine lWv rfl ?_ | refine l_no rfl ?_ | refine tT rfl rfl ?_ | refine tF rfl rfl ?_ | refine lT rfl rfl ?_ | refine lF rfl rfl ?_)
          refine t_drawm [0, 1, 2, 3] 11 rfl rfl (by kernel_rfl) ?_
          (repeat first | refine dWv [4, 7] rfl rfl rfl ?_ | refine dno [4, 7] rfl rfl rfl ?_ | refine dT [4, 7] rfl rfl rfl rfl ?_ | refine dF [4, 7] rfl rfl rfl rfl ?_)
          refine d_v [7] rfl rfl (by kernel_rfl) (fun _ h => by first | exact h | exact Hp.sub h (.cons _ (.refl _)) | exact Hp.sub h (.cons _ (.cons _ (.refl _))) | exact Hp.sub h (.cons _ (.cons _ (.cons _ (.refl _)))) | exact Hp.sub h (.cons _ (.cons _ (.cons _ (.cons _ (.refl _))))) | exact Hp.sub h (.cons _ (.cons _ (.cons _ (.cons _ (.cons _ (.refl _)))))) | exact Hp.sub h (.cons _ (.cons _ (.cons _ (.cons _ (.cons _ (.cons _ (.refl _)))))))) rfl rfl (v_loadp rfl rfl (.head _) h1) ?_
          (repeat first | refine dWv [7] rfl rfl rfl ?_ | refine dno [7] rfl rfl rfl ?_ | refine dT [7] rfl rfl rfl rfl ?_ | refine dF [7] rfl rfl rfl rfl ?_)
          refine d_v [] rfl rfl (by kernel_rfl) (fun _ h => by first | exact h | exact Hp.sub h (.cons _ (.refl _)) | exact Hp.sub h (.cons _ (.cons _ (.refl _))) | exact Hp.sub h (.cons _ (.cons _ (.cons _ (.refl _)))) | exact Hp.sub h (.cons _ (.cons _ (.cons _ (.cons _ (.refl _))))) | exact Hp.sub h (.cons _ (.cons _ (.cons _ (.cons _ (.cons _ (.refl _)))))) | exact Hp.sub h (.cons _ (.cons _ (.cons _ (.cons _ (.cons _ (.cons _ (.refl _)))))))) rfl rfl (v_loadp rfl rfl (.tail _ (.head _)) h2) ?_
          (repeat first | refine dWv [] rfl rfl rfl ?_ | refine dno [] rfl rfl rfl ?_ | refine dT [] rfl rfl rfl rfl ?_ | refine dF [] rfl rfl rfl rfl ?_)
          refine d_tail ⟨by kernel_rfl, by kernel_rfl⟩ rfl rfl (o_store1 rfl rfl rfl rfl rfl rfl (by rw [List.size_toArray, hpl8]; omega)) fun _ => ?_
          rw [List.setIfInBounds_toArray, hset]
          (repeat first | with_reducible (first | apply t_seq | apply t_region | apply t_block | apply t_ret | apply t_skip | apply t_exit | apply l_nil | apply x_then | apply x_pass_exit | apply x_pass_ret | apply x_block_ret | apply x_block_normal | apply x_block_here | apply x_block_out rfl) | refine lWv rfl ?_ | refine l_no rfl ?_ | refine tT rfl rfl ?_ | refine tF rfl rfl ?_ | refine lT rfl rfl ?_ | refine lF rfl rfl ?_)
          exact x_round (k + 1) ⟨rfl, rfl, rfl, rfl, rfl, rfl, trivial⟩ hk8 (fun w' hw' => hw') (by omega)
        · obtain rfl : k = 8 := by omega
          rw [part8_8, ← hnx]
          (repeat first | with_reducible (first | apply t_seq | apply t_region | apply t_block | apply t_ret | apply t_skip | apply t_exit | apply l_nil | apply x_then | apply x_pass_exit | apply x_pass_ret | apply x_block_ret | apply x_block_normal | apply x_block_here | apply x_block_out rfl) | refine lWv rfl ?_ | refine l_no rfl ?_ | refine tT rfl rfl ?_ | refine tF rfl rfl ?_ | refine lT rfl rfl ?_ | refine lF rfl rfl ?_)
          exact x_round (j + 1) ⟨rfl, rfl, rfl, rfl, trivial⟩ hj2 (fun w' hw' => hw'.pick [0, 2, 3] rfl rfl) (by omega)
  · obtain rfl : j = e := by omega
    generalize eatN Kf H8 P j = v
    (repeat first | with_reducible (first | apply t_seq | apply t_region | apply t_block | apply t_ret | apply t_skip | apply t_exit | apply l_nil | apply x_then | apply x_pass_exit | apply x_pass_ret | apply x_block_ret | apply x_block_normal | apply x_block_here | apply x_block_out rfl) | refine lWv rfl ?_ | refine l_no rfl ?_ | refine tT rfl rfl ?_ | refine tF rfl rfl ?_ | refine lT rfl rfl ?_ | refine lF rfl rfl ?_)
    refine l_alloca rfl rfl fun b24 hb24 => ?_
    (repeat first | with_reducible (first | apply t_seq | apply t_region | apply t_block | apply t_ret | apply t_skip | apply t_exit | apply l_nil | apply x_then | apply x_pass_exit | apply x_pass_ret | apply x_block_ret | apply x_block_normal | apply x_block_here | apply x_block_out rfl) | refine lWv rfl ?_ | refine l_no rfl ?_ | refine tT rfl rfl ?_ | refine tF rfl rfl ?_ | refine lT rfl rfl ?_ | refine lF rfl rfl ?_)
    refine t_for (α := Nat) (fun i => [(2, .pointer (some ⟨b2, 0, none⟩)), (4, .pointer (some ⟨b4, 0, none⟩)), (24, .pointer (some ⟨b24, 0, none⟩)), (25, .int .i64 i)]) (fun i => i ≤ 32)
      (fun i => [pt b24 (.cells (bytesV (outP v i)).toArray 23 (0, 0)), tbI b2 (l8 v), pt b4 (.cells (bytesV (List.replicate 32 0)).toArray 23 (0, 0))]) (fun i => 32 - i) 0 ⟨rfl, rfl, rfl, rfl, trivial⟩ (Nat.zero_le _) (fun w' hw' => hw'.pick [0, 1, 3] rfl rfl) fun i hi => ?_
    by_cases hi2 : i < 32
    · have hh := hash_at v (i := i / 4) (j := i % 4) (by omega) (by omega)
      rw [show 4 * (i / 4) + i % 4 = i by omega] at hh
      have hup := out_up v hi2 hh
      have hol : (outP v i).length = 32 := by rw [outP, List.length_append, List.length_take, hashL_length, List.length_replicate]; omega
      have hH : (tbC (l8 v)).toArray[64 + i / 4]? = some (w32 (v.l.getD (i / 4) 0)) := (tb_Ha _ _).trans (l8_at v (i := i / 4) (by omega))
      (repeat first | with_reducible (first | apply t_seq | apply t_region | apply t_block | apply t_ret | apply t_skip | apply t_exit | apply l_nil | apply x_then | apply x_pass_exit | apply x_pass_ret | apply x_block_ret | apply x_block_normal | apply x_block_here | apply x_block_out rfl) | refine lWv rfl ?_ | refine l_no rfl ?_ | refine tT rfl rfl ?_ | refine tF rfl rfl ?_ | refine lT rfl rfl ?_ | refine lF rfl rfl ?_)
      refine l_w rfl (v_loadp rfl rfl (.tail _ (.head _)) hH) ?_
      (repeat first | with_reducible (first | apply t_seq | apply t_region | apply t_block | apply t_ret | apply t_skip | apply t_exit | apply l_nil | apply x_then | apply x_pass_exit | apply x_pass_ret | apply x_block_ret | apply x_block_normal | apply x_block_here | apply x_block_out rfl) | refine lWv rfl ?_ | refine l_no rfl ?_ | refine tT rfl rfl ?_ | refine tF rfl rfl ?_ | refine lT rfl rfl ?_ | refine lF rfl rfl ?_)
      refine l_w rfl (v_cvM rfl rfl rfl) ?_
      rw [byte_val]
      (repeat first | with_reducible (first | apply t_seq | apply t_region | apply t_block | apply t_ret | apply t_skip | apply t_exit | apply l_nil | apply x_then | apply x_pass_exit | apply x_pass_ret | apply x_block_ret | apply x_block_normal | apply x_block_here | apply x_block_out rfl) | refine lWv rfl ?_ | refine l_no rfl ?_ | refine tT rfl rfl ?_ | refine tF rfl rfl ?_ | refine lT rfl rfl ?_ | refine lF rfl rfl ?_)
      refine l_op rfl (o_store1 rfl rfl rfl rfl rfl rfl (by rw [List.size_toArray, bytesV_length, hol]; omega)) fun _ => ?_
      rw [Nat.zero_add, bytesV_set, hup]
      (repeat first | with_reducible (first | apply t_seq | apply t_region | apply t_block | apply t_ret | apply t_skip | apply t_exit | apply l_nil | apply x_then | apply x_pass_exit | apply x_pass_ret | apply x_block_ret | apply x_block_normal | apply x_block_here | apply x_block_out rfl) | refine lWv rfl ?_ | refine l_no rfl ?_ | refine tT rfl rfl ?_ | refine tF rfl rfl ?_ | refine lT rfl rfl ?_ | refine lF rfl rfl ?_)
      exact x_round (i + 1) ⟨rfl, rfl, rfl, rfl, trivial⟩ hi2 (fun w' hw' => hw') (by omega)
    · obtain rfl : i = 32 := by omega
      have hov : outP v 32 = hashL v := rfl
      have hl32 : (bytesV (hashL v)).length = 32 := by rw [bytesV_length, hashL_length]
      rw [hov]
      (repeat first | with_reducible (first | apply t_seq | apply t_region | apply t_block | apply t_ret | apply t_skip | apply t_exit | apply l_nil | apply x_then | apply x_pass_exit | apply x_pass_ret | apply x_block_ret | apply x_block_normal | apply x_block_here | apply x_block_out rfl) | refine lWv rfl ?_ | refine l_no rfl ?_ | refine tT rfl rfl ?_ | refine tF rfl rfl ?_ | refine lT rfl rfl ?_ | refine lF rfl rfl ?_)
      refine l_op rfl (ho_perm (bring2 _ _ _ _) (o_storea (cs' := (bytesV (hashL v)).toArray) rfl rfl rfl (by rw [List.size_toArray, hl32]; rfl) (bytesV_one _) (by rw [List.size_toArray, hl32]; rfl))) fun _ => ?_
      (repeat first | with_reducible (first | apply t_seq | apply t_region | apply t_block | apply t_ret | apply t_skip | apply t_exit | apply l_nil | apply x_then | apply x_pass_exit | apply x_pass_ret | apply x_block_ret | apply x_block_normal | apply x_block_here | apply x_block_out rfl) | refine lWv rfl ?_ | refine l_no rfl ?_ | refine tT rfl rfl ?_ | refine tF rfl rfl ?_ | refine lT rfl rfl ?_ | refine lF rfl rfl ?_)
      exact x_pu rfl ⟨_, rfl, loada_run (by rw [List.size_toArray, hl32]; rfl) (.head _)⟩ rfl
end Go.Proofs.YtdkonngkbbgcgaaGreatDoor
