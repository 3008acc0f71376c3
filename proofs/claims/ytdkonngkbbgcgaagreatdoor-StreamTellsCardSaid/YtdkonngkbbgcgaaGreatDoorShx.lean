/- package sha: a block is eaten. -/
import Derived.Test.YtdkonngkbbgcgaaGreatDoorShw
namespace Go.Proofs.YtdkonngkbbgcgaaGreatDoor
open Go.RowKit Go.Eng
set_option maxRecDepth 100000
set_option maxHeartbeats 40000000
abbrev v8A (v : V8) : Array Value := #[w32 v.a, w32 v.b, w32 v.c, w32 v.d, w32 v.e, w32 v.f, w32 v.g, w32 v.h]
abbrev wordsI (b : Nat) (v : V8) : Eng.Item := pt b (.cells (v8A v) 104 (0, 0))
/-- The ring while it is filled. -/
def part16 (m : Nat → W32) (k : Nat) : List Value := (List.range 16).map fun j => if j < k then w32 (m j) else .int .u32 0
theorem part_all (m : Nat → W32) : part16 m 16 = (ring m 0).map w32 := by
  rw [ring_low m (by decide), List.map_map]
  refine List.map_congr_left fun j hj => ?_
  rw [if_pos (List.mem_range.1 hj)]; rfl
theorem part_up (m : Nat → W32) {k : Nat} (hk : k < 16) : (part16 m k).set k (w32 (m k)) = part16 m (k + 1) := by
  apply List.ext_getElem?
  intro j
  rw [List.getElem?_set]
  by_cases hj : j < 16
  · simp only [part16, List.getElem?_map, List.length_map, List.length_range]
    rw [List.getElem?_range hj]
    simp only [Option.map_some]
    by_cases h : k = j
    · subst h
      rw [if_pos rfl, if_pos hj, if_pos (by omega)]
    · rw [if_neg h]
      by_cases h2 : j < k
      · rw [if_pos h2, if_pos (by omega)]
      · rw [if_neg h2, if_neg (by omega)]
  · have h1 : (part16 m k)[j]? = none := List.getElem?_eq_none (by simp [part16]; omega)
    have h2 : (part16 m (k + 1))[j]? = none := List.getElem?_eq_none (by simp [part16]; omega)
    rw [h1, h2, if_neg (by omega)]
theorem getD_eq {bs : Bys} {i : Nat} (h : i < bs.length) : bs.getD i 0 = bs[i] := by rw [List.getD_eq_getElem?_getD, List.getElem?_eq_getElem h]; rfl
theorem word_eq (bs : Bys) (i : Nat) : BitVec.ofNat 32 (bs.getD (4 * i) 0).toNat <<< 24 ||| BitVec.ofNat 32 (bs.getD (4 * i + 1) 0).toNat <<< 16 ||| BitVec.ofNat 32 (bs.getD (4 * i + 2) 0).toNat <<< 8 ||| BitVec.ofNat 32 (bs.getD (4 * i + 3) 0).toNat = wordAt bs i := word_or _ _ _ _
def part8 (vl ul : List W32) (i : Nat) : List Value := (List.range 8).map fun j => w32 (if j < i then vl.getD j 0 + ul.getD j 0 else vl.getD j 0)
theorem part8_at (vl ul : List W32) {i : Nat} (hi : i < 8) : (part8 vl ul i)[i]? = some (w32 (vl.getD i 0)) := by
  rw [part8, List.getElem?_map, List.getElem?_range hi]
  simp
theorem part8_up (vl ul : List W32) {k : Nat} (hk : k < 8) : (part8 vl ul k).set k (w32 (vl.getD k 0 + ul.getD k 0)) = part8 vl ul (k + 1) := by
  apply List.ext_getElem?
  intro j
  rw [List.getElem?_set]
  by_cases hj : j < 8
  · simp only [part8, List.getElem?_map, List.length_map, List.length_range]
    rw [List.getElem?_range hj]
    simp only [Option.map_some]
    by_cases h : k = j
    · subst h
      rw [if_pos rfl, if_pos hj, if_pos (by omega)]
    · rw [if_neg h]
      by_cases h2 : j < k
      · rw [if_pos h2, if_pos (by omega)]
      · rw [if_neg h2, if_neg (by omega)]
  · have h1 : (part8 vl ul k)[j]? = none := List.getElem?_eq_none (by simp [part8]; omega)
    have h2 : (part8 vl ul (k + 1))[j]? = none := List.getElem?_eq_none (by simp [part8]; omega)
    rw [h1, h2, if_neg (by omega)]
theorem v8_at (u : V8) : ∀ {i : Nat}, i < 8 → (v8A u)[i]? = some (w32 (u.l.getD i 0))
  | 0, _ => rfl
  | 1, _ => rfl
  | 2, _ => rfl
  | 3, _ => rfl
  | 4, _ => rfl
  | 5, _ => rfl
  | 6, _ => rfl
  | 7, _ => rfl
theorem eats_calls (hb : Nat) (v : V8) (a : Option Addr) (c : Nat) (bs : Bys) (hl : bs.length = 64) (w : World) (ht : Tabs w) (hF : ∀ k, k < 3 → k ≠ hb) (hr : ∀ w', Fr (foots [wordsI hb v]) w w' → Rd w' a (bytesV bs)) (hw : ∀ it ∈ [wordsI hb v], Here it w) :
    Ct Tryz.prog 41 #[.pointer (some ⟨hb, 0, none⟩), .slice a 64 c] w (foots [wordsI hb v]) (fun _ : Unit => .tuple #[]) (fun _ => True) (fun _ => [wordsI hb (eat Kf (wordAt bs) v)]) := by
  refine cu_of [_, _] _ Tryz.func41 rfl rfl hw (.cons (fun _ h => nomatch h) .nil) ?_
  simp only [argSlots, Nat.reduceAdd]
  obtain ⟨b, off, rfl, -⟩ := (hr w (.refl _ _)).byte (i := 0) (by omega)
  have hcell : ∀ {m : List Eng.Item} (w' : World) (j : Nat), Hp w (foots [wordsI hb v]) m w' → j < 64 → w'.cell? ⟨b, off + j, none⟩ = some (.int .u8 ((bs.getD j 0).toNat : Int)) := fun w' j hw' hj => by
    obtain ⟨b2, off2, e, h2⟩ := (hr w' hw'.fr).byte (i := j) (by omega)
    cases e
    rw [getD_eq (by omega)]; exact h2
  (repeat first | with_reducible (first | apply t_seq | apply t_region | apply t_block | apply t_ret | apply t_skip | apply t_exit | apply l_nil | apply x_then | apply x_pass_exit | apply x_pass_ret | apply x_block_ret | apply x_block_normal | apply x_block_here | apply x_block_out rfl) | refine lWv rfl ?_ | refine l_no rfl ?_ | refine tT rfl rfl ?_ | refine tF rfl rfl ?_ | refine lT rfl rfl ?_ | refine lF rfl rfl ?_)
  refine l_alloca rfl rfl fun r hr => ?_
  (repeat first | with_reducible (first | apply t_seq | apply t_region | apply t_block | apply t_ret | apply t_skip | apply t_exit | apply l_nil | apply x_then | apply x_pass_exit | apply x_pass_ret | apply x_block_ret | apply x_block_normal | apply x_block_here | apply x_block_out rfl) | refine lWv rfl ?_ | refine l_no rfl ?_ | refine tT rfl rfl ?_ | refine tF rfl rfl ?_ | refine lT rfl rfl ?_ | refine lF rfl rfl ?_)
  refine t_for (α := Nat) (fun k => [(0, .pointer (some ⟨hb, 0, none⟩)), (1, .slice (some ⟨b, off, none⟩) 64 c), (4, .pointer (some ⟨r, 0, none⟩)), (16, .int .i64 k)]) (fun k => k ≤ 16) (fun k => [pt r (.cells (part16 (wordAt bs) k).toArray 123 (0, 0)), wordsI hb v]) (fun k => 16 - k) 0 ⟨rfl, rfl, rfl, rfl, trivial⟩ (Nat.zero_le _) (fun w' hw' => hw') fun k hk => ?_
  by_cases hk2 : k < 16
  · have hup := part_up (wordAt bs) hk2
    have hwe := word_eq bs k
    (repeat first | with_reducible (first | apply t_seq | apply t_region | apply t_block | apply t_ret | apply t_skip | apply t_exit | apply l_nil | apply x_then | apply x_pass_exit | apply x_pass_ret | apply x_block_ret | apply x_block_normal | apply x_block_here | apply x_block_out rfl) | refine lWv rfl ?_ | refine l_no rfl ?_ | refine tT rfl rfl ?_ | refine tF rfl rfl ?_ | refine lT rfl rfl ?_ | refine lF rfl rfl ?_)
    refine t_drawm [0, 1] 35 rfl rfl (by kernel_rfl) ?_
    (repeat first | refine dWv [] rfl rfl rfl ?_ | refine dno [] rfl rfl rfl ?_ | refine dT [] rfl rfl rfl rfl ?_ | refine dF [] rfl rfl rfl rfl ?_)
    refine d_v [] rfl rfl (by kernel_rfl) (fun _ h => h) rfl rfl (v_load rfl rfl (fun w' hw' => hcell w' (4 * k) hw' (by omega))) ?_
    (repeat first | refine dWv [] rfl rfl rfl ?_ | refine dno [] rfl rfl rfl ?_ | refine dT [] rfl rfl rfl rfl ?_ | refine dF [] rfl rfl rfl rfl ?_)
    refine d_v [] rfl rfl (by kernel_rfl) (fun _ h => h) rfl rfl (v_load rfl rfl (fun w' hw' => hcell w' (4 * k + 1) hw' (by omega))) ?_
    (repeat first | refine dWv [] rfl rfl rfl ?_ | refine dno [] rfl rfl rfl ?_ | refine dT [] rfl rfl rfl rfl ?_ | refine dF [] rfl rfl rfl rfl ?_)
    refine d_v [] rfl rfl (by kernel_rfl) (fun _ h => h) rfl rfl (v_load rfl rfl (fun w' hw' => hcell w' (4 * k + 2) hw' (by omega))) ?_
    (repeat first | refine dWv [] rfl rfl rfl ?_ | refine dno [] rfl rfl rfl ?_ | refine dT [] rfl rfl rfl rfl ?_ | refine dF [] rfl rfl rfl rfl ?_)
    refine d_v [] rfl rfl (by kernel_rfl) (fun _ h => h) rfl rfl (v_load rfl rfl (fun w' hw' => hcell w' (4 * k + 3) hw' (by omega))) ?_
    (repeat first | refine dWv [] rfl rfl rfl ?_ | refine dno [] rfl rfl rfl ?_ | refine dT [] rfl rfl rfl rfl ?_ | refine dF [] rfl rfl rfl rfl ?_)
    rw [hwe]
    refine d_tail ⟨by kernel_rfl, by kernel_rfl⟩ rfl rfl (o_store1 rfl rfl rfl rfl rfl rfl (by simp [part16]; omega)) fun _ => ?_
    (repeat first | with_reducible (first | apply t_seq | apply t_region | apply t_block | apply t_ret | apply t_skip | apply t_exit | apply l_nil | apply x_then | apply x_pass_exit | apply x_pass_ret | apply x_block_ret | apply x_block_normal | apply x_block_here | apply x_block_out rfl) | refine lWv rfl ?_ | refine l_no rfl ?_ | refine tT rfl rfl ?_ | refine tF rfl rfl ?_ | refine lT rfl rfl ?_ | refine lF rfl rfl ?_)
    refine x_round (k + 1) ⟨rfl, rfl, rfl, rfl, trivial⟩ hk2 (fun w' hw' => ?_) (by omega)
    rw [← hup]
    rw [List.setIfInBounds_toArray, Nat.zero_add] at hw'
    exact hw'
  · obtain rfl : k = 16 := by omega
    rw [part_all]
    (repeat first | with_reducible (first | apply t_seq | apply t_region | apply t_block | apply t_ret | apply t_skip | apply t_exit | apply l_nil | apply x_then | apply x_pass_exit | apply x_pass_ret | apply x_block_ret | apply x_block_normal | apply x_block_here | apply x_block_out rfl) | refine lWv rfl ?_ | refine l_no rfl ?_ | refine tT rfl rfl ?_ | refine tF rfl rfl ?_ | refine lT rfl rfl ?_ | refine lF rfl rfl ?_)
    refine l_w rfl (v_mkf rfl) ?_
    (repeat first | with_reducible (first | apply t_seq | apply t_region | apply t_block | apply t_ret | apply t_skip | apply t_exit | apply l_nil | apply x_then | apply x_pass_exit | apply x_pass_ret | apply x_block_ret | apply x_block_normal | apply x_block_here | apply x_block_out rfl) | refine lWv rfl ?_ | refine l_no rfl ?_ | refine tT rfl rfl ?_ | refine tF rfl rfl ?_ | refine lT rfl rfl ?_ | refine lF rfl rfl ?_)
    refine l_alloca rfl rfl fun b7 hb7 => ?_
    refine l_op rfl (o_storea rfl rfl rfl rfl rfl rfl) fun _ => ?_
    (repeat first | with_reducible (first | apply t_seq | apply t_region | apply t_block | apply t_ret | apply t_skip | apply t_exit | apply l_nil | apply x_then | apply x_pass_exit | apply x_pass_ret | apply x_block_ret | apply x_block_normal | apply x_block_here | apply x_block_out rfl) | refine lWv rfl ?_ | refine l_no rfl ?_ | refine tT rfl rfl ?_ | refine tF rfl rfl ?_ | refine lT rfl rfl ?_ | refine lF rfl rfl ?_)
    have hlen : (((List.range 64).map fun i => w32 (Kf i)) : List Value).length = 64 := by rw [List.length_map, List.length_range]
    have hkat : ∀ i, i < 64 → (((List.range 64).map fun i => w32 (Kf i)) : List Value).toArray[i]? = some (w32 (Kf i)) := fun i hi => by rw [List.getElem?_toArray, List.getElem?_map, List.getElem?_range hi]; rfl
    refine l_w rfl (v_loadc (xs := (List.range 64).map fun i => w32 (Kf i)) rfl (by rw [hlen]; rfl) (fun w' hw' => (ht.fr (fun k hk ⟨it, h1, h2⟩ => hF k hk (by rw [List.mem_singleton.1 h1] at h2; exact h2)) hw'.fr).k)) ?_
    (repeat first | with_reducible (first | apply t_seq | apply t_region | apply t_block | apply t_ret | apply t_skip | apply t_exit | apply l_nil | apply x_then | apply x_pass_exit | apply x_pass_ret | apply x_block_ret | apply x_block_normal | apply x_block_here | apply x_block_out rfl) | refine lWv rfl ?_ | refine l_no rfl ?_ | refine tT rfl rfl ?_ | refine tF rfl rfl ?_ | refine lT rfl rfl ?_ | refine lF rfl rfl ?_)
    refine t_for (α := Nat) (fun k => [(0, .pointer (some ⟨hb, 0, none⟩)), (6, .func (.func 71) #[] #[.pointer (some ⟨r, 0, none⟩)]), (7, .pointer (some ⟨b7, 0, none⟩)), (59, .agg (((List.range 64).map fun i => w32 (Kf i)) : List Value).toArray), (60, .int .i64 k)]) (fun k => k ≤ 64)
      (fun k => [ringI r (wordAt bs) k, wordsI b7 (runs Kf (sched (wordAt bs)) v k), wordsI hb v]) (fun k => 64 - k) 0 ⟨rfl, rfl, rfl, rfl, rfl, trivial⟩ (Nat.zero_le _) (fun w' hw' => hw'.perm (bring1 _ _ _)) fun k hk => ?_
    by_cases hk2 : k < 64
    · generalize hu : runs Kf (sched (wordAt bs)) v k = u
      have hu2 : runs Kf (sched (wordAt bs)) v (k + 1) = rnd u (Kf k) (sched (wordAt bs) k) := by rw [runs, hu]
      (repeat first | with_reducible (first | apply t_seq | apply t_region | apply t_block | apply t_ret | apply t_skip | apply t_exit | apply l_nil | apply x_then | apply x_pass_exit | apply x_pass_ret | apply x_block_ret | apply x_block_normal | apply x_block_here | apply x_block_out rfl) | refine lWv rfl ?_ | refine l_no rfl ?_ | refine tT rfl rfl ?_ | refine tF rfl rfl ?_ | refine lT rfl rfl ?_ | refine lF rfl rfl ?_)
      refine l_w rfl (v_arrat rfl rfl rfl rfl rfl hk2 (hkat k hk2)) ?_
      (repeat first | with_reducible (first | apply t_seq | apply t_region | apply t_block | apply t_ret | apply t_skip | apply t_exit | apply l_nil | apply x_then | apply x_pass_exit | apply x_pass_ret | apply x_block_ret | apply x_block_normal | apply x_block_here | apply x_block_out rfl) | refine lWv rfl ?_ | refine l_no rfl ?_ | refine tT rfl rfl ?_ | refine tF rfl rfl ?_ | refine lT rfl rfl ?_ | refine lF rfl rfl ?_)
      refine t_drawm [0, 1, 2] 6 rfl rfl (by kernel_rfl) ?_
      (repeat first | refine dWv [] rfl rfl rfl ?_ | refine dno [] rfl rfl rfl ?_ | refine dT [] rfl rfl rfl rfl ?_ | refine dF [] rfl rfl rfl rfl ?_)
      refine d_end (by kernel_rfl) ?_
      (repeat first | with_reducible (first | apply t_seq | apply t_region | apply t_block | apply t_ret | apply t_skip | apply t_exit | apply l_nil | apply x_then | apply x_pass_exit | apply x_pass_ret | apply x_block_ret | apply x_block_normal | apply x_block_here | apply x_block_out rfl) | refine lWv rfl ?_ | refine l_no rfl ?_ | refine tT rfl rfl ?_ | refine tF rfl rfl ?_ | refine lT rfl rfl ?_ | refine lF rfl rfl ?_)
      refine t_drawm [1, 2] 29 rfl rfl (by kernel_rfl) ?_
      (repeat first | refine dWv [] rfl rfl rfl ?_ | refine dno [] rfl rfl rfl ?_ | refine dT [] rfl rfl rfl rfl ?_ | refine dF [] rfl rfl rfl rfl ?_)
      refine d_opg 3 ⟨by kernel_rfl, by decide⟩ rfl rfl (o_pure rfl (by kernel_rfl) rfl (fun w1 hw1 => right_calls _ 6 (by decide) w1)) (fun _ _ h => by first | exact h | exact Hp.sub h (.cons _ (.refl _)) | exact Hp.sub h (.cons _ (.cons _ (.refl _))) | exact Hp.sub h (.cons _ (.cons _ (.cons _ (.refl _)))) | exact Hp.sub h (.cons _ (.cons _ (.cons _ (.cons _ (.refl _))))) | exact Hp.sub h (.cons _ (.cons _ (.cons _ (.cons _ (.cons _ (.refl _)))))) | exact Hp.sub h (.cons _ (.cons _ (.cons _ (.cons _ (.cons _ (.cons _ (.refl _)))))))) fun _ => ?_
      (repeat first | refine dWv [] rfl rfl rfl ?_ | refine dno [] rfl rfl rfl ?_ | refine dT [] rfl rfl rfl rfl ?_ | refine dF [] rfl rfl rfl rfl ?_)
      refine d_opg 5 ⟨by kernel_rfl, by decide⟩ rfl rfl (o_pure rfl (by kernel_rfl) rfl (fun w1 hw1 => right_calls _ 11 (by decide) w1)) (fun _ _ h => by first | exact h | exact Hp.sub h (.cons _ (.refl _)) | exact Hp.sub h (.cons _ (.cons _ (.refl _))) | exact Hp.sub h (.cons _ (.cons _ (.cons _ (.refl _)))) | exact Hp.sub h (.cons _ (.cons _ (.cons _ (.cons _ (.refl _))))) | exact Hp.sub h (.cons _ (.cons _ (.cons _ (.cons _ (.cons _ (.refl _)))))) | exact Hp.sub h (.cons _ (.cons _ (.cons _ (.cons _ (.cons _ (.cons _ (.refl _)))))))) fun _ => ?_
      (repeat first | refine dWv [] rfl rfl rfl ?_ | refine dno [] rfl rfl rfl ?_ | refine dT [] rfl rfl rfl rfl ?_ | refine dF [] rfl rfl rfl rfl ?_)
      refine d_opg 8 ⟨by kernel_rfl, by decide⟩ rfl rfl (o_pure rfl (by kernel_rfl) rfl (fun w1 hw1 => right_calls _ 25 (by decide) w1)) (fun _ _ h => by first | exact h | exact Hp.sub h (.cons _ (.refl _)) | exact Hp.sub h (.cons _ (.cons _ (.refl _))) | exact Hp.sub h (.cons _ (.cons _ (.cons _ (.refl _)))) | exact Hp.sub h (.cons _ (.cons _ (.cons _ (.cons _ (.refl _))))) | exact Hp.sub h (.cons _ (.cons _ (.cons _ (.cons _ (.cons _ (.refl _)))))) | exact Hp.sub h (.cons _ (.cons _ (.cons _ (.cons _ (.cons _ (.cons _ (.refl _)))))))) fun _ => ?_
      (repeat first | refine dWv [] rfl rfl rfl ?_ | refine dno [] rfl rfl rfl ?_ | refine dT [] rfl rfl rfl rfl ?_ | refine dF [] rfl rfl rfl rfl ?_)
      refine d_opg 26 ⟨by kernel_rfl, by decide⟩ rfl rfl (o_cuF (pre := [ringI r (wordAt bs) k]) (fs := []) (cs := [.pointer (some ⟨r, 0, none⟩)]) rfl (by kernel_rfl) rfl rfl rfl (by simp [pt_stable]) (fun w1 hw1 hh1 ha1 => next_calls r (wordAt bs) k hk2 w1 hh1)) (fun _ _ h => by first | exact h | exact Hp.sub h (.cons _ (.refl _)) | exact Hp.sub h (.cons _ (.cons _ (.refl _))) | exact Hp.sub h (.cons _ (.cons _ (.cons _ (.refl _)))) | exact Hp.sub h (.cons _ (.cons _ (.cons _ (.cons _ (.refl _))))) | exact Hp.sub h (.cons _ (.cons _ (.cons _ (.cons _ (.cons _ (.refl _)))))) | exact Hp.sub h (.cons _ (.cons _ (.cons _ (.cons _ (.cons _ (.cons _ (.refl _)))))))) fun _ => ?_
      (repeat first | refine dWv [] rfl rfl rfl ?_ | refine dno [] rfl rfl rfl ?_ | refine dT [] rfl rfl rfl rfl ?_ | refine dF [] rfl rfl rfl rfl ?_)
      refine d_end (by kernel_rfl) ?_
      (repeat first | with_reducible (first | apply t_seq | apply t_region | apply t_block | apply t_ret | apply t_skip | apply t_exit | apply l_nil | apply x_then | apply x_pass_exit | apply x_pass_ret | apply x_block_ret | apply x_block_normal | apply x_block_here | apply x_block_out rfl) | refine lWv rfl ?_ | refine l_no rfl ?_ | refine tT rfl rfl ?_ | refine tF rfl rfl ?_ | refine lT rfl rfl ?_ | refine lF rfl rfl ?_)
      refine t_drawm [0, 1, 2] 25 rfl rfl (by kernel_rfl) ?_
      (repeat first | refine dWv [] rfl rfl rfl ?_ | refine dno [] rfl rfl rfl ?_ | refine dT [] rfl rfl rfl rfl ?_ | refine dF [] rfl rfl rfl rfl ?_)
      refine d_opg 1 ⟨by kernel_rfl, by decide⟩ rfl rfl (o_pure rfl (by kernel_rfl) rfl (fun w1 hw1 => right_calls _ 2 (by decide) w1)) (fun _ _ h => by first | exact h | exact Hp.sub h (.cons _ (.refl _)) | exact Hp.sub h (.cons _ (.cons _ (.refl _))) | exact Hp.sub h (.cons _ (.cons _ (.cons _ (.refl _)))) | exact Hp.sub h (.cons _ (.cons _ (.cons _ (.cons _ (.refl _))))) | exact Hp.sub h (.cons _ (.cons _ (.cons _ (.cons _ (.cons _ (.refl _)))))) | exact Hp.sub h (.cons _ (.cons _ (.cons _ (.cons _ (.cons _ (.cons _ (.refl _)))))))) fun _ => ?_
      (repeat first | refine dWv [] rfl rfl rfl ?_ | refine dno [] rfl rfl rfl ?_ | refine dT [] rfl rfl rfl rfl ?_ | refine dF [] rfl rfl rfl rfl ?_)
      refine d_opg 3 ⟨by kernel_rfl, by decide⟩ rfl rfl (o_pure rfl (by kernel_rfl) rfl (fun w1 hw1 => right_calls _ 13 (by decide) w1)) (fun _ _ h => by first | exact h | exact Hp.sub h (.cons _ (.refl _)) | exact Hp.sub h (.cons _ (.cons _ (.refl _))) | exact Hp.sub h (.cons _ (.cons _ (.cons _ (.refl _)))) | exact Hp.sub h (.cons _ (.cons _ (.cons _ (.cons _ (.refl _))))) | exact Hp.sub h (.cons _ (.cons _ (.cons _ (.cons _ (.cons _ (.refl _)))))) | exact Hp.sub h (.cons _ (.cons _ (.cons _ (.cons _ (.cons _ (.cons _ (.refl _)))))))) fun _ => ?_
      (repeat first | refine dWv [] rfl rfl rfl ?_ | refine dno [] rfl rfl rfl ?_ | refine dT [] rfl rfl rfl rfl ?_ | refine dF [] rfl rfl rfl rfl ?_)
      refine d_opg 6 ⟨by kernel_rfl, by decide⟩ rfl rfl (o_pure rfl (by kernel_rfl) rfl (fun w1 hw1 => right_calls _ 22 (by decide) w1)) (fun _ _ h => by first | exact h | exact Hp.sub h (.cons _ (.refl _)) | exact Hp.sub h (.cons _ (.cons _ (.refl _))) | exact Hp.sub h (.cons _ (.cons _ (.cons _ (.refl _)))) | exact Hp.sub h (.cons _ (.cons _ (.cons _ (.cons _ (.refl _))))) | exact Hp.sub h (.cons _ (.cons _ (.cons _ (.cons _ (.cons _ (.refl _)))))) | exact Hp.sub h (.cons _ (.cons _ (.cons _ (.cons _ (.cons _ (.cons _ (.refl _)))))))) fun _ => ?_
      (repeat first | refine dWv [] rfl rfl rfl ?_ | refine dno [] rfl rfl rfl ?_ | refine dT [] rfl rfl rfl rfl ?_ | refine dF [] rfl rfl rfl rfl ?_)
      refine d_end (by kernel_rfl) ?_
      (repeat first | with_reducible (first | apply t_seq | apply t_region | apply t_block | apply t_ret | apply t_skip | apply t_exit | apply l_nil | apply x_then | apply x_pass_exit | apply x_pass_ret | apply x_block_ret | apply x_block_normal | apply x_block_here | apply x_block_out rfl) | refine lWv rfl ?_ | refine l_no rfl ?_ | refine tT rfl rfl ?_ | refine tF rfl rfl ?_ | refine lT rfl rfl ?_ | refine lF rfl rfl ?_)
      refine l_w rfl (v_builda rfl rfl rfl rfl rfl) ?_
      refine l_say 137 _ (.agg (v8A (rnd u (Kf k) (sched (wordAt bs) k)))) rfl rfl ?_
      refine l_op rfl (ho_perm (bring1 _ _ _) (o_storea rfl rfl rfl rfl rfl rfl)) fun _ => ?_
      (repeat first | with_reducible (first | apply t_seq | apply t_region | apply t_block | apply t_ret | apply t_skip | apply t_exit | apply l_nil | apply x_then | apply x_pass_exit | apply x_pass_ret | apply x_block_ret | apply x_block_normal | apply x_block_here | apply x_block_out rfl) | refine lWv rfl ?_ | refine l_no rfl ?_ | refine tT rfl rfl ?_ | refine tF rfl rfl ?_ | refine lT rfl rfl ?_ | refine lF rfl rfl ?_)
      exact x_round (k + 1) ⟨rfl, rfl, rfl, rfl, rfl, trivial⟩ hk2 (fun w' hw' => by rw [hu2]; exact hw'.perm (bring1 _ _ _)) (by omega)
    · obtain rfl : k = 64 := by omega
      have heat : eat Kf (wordAt bs) v = v.add (runs Kf (sched (wordAt bs)) v 64) := rfl
      rw [heat]
      generalize runs Kf (sched (wordAt bs)) v 64 = u
      (repeat first | with_reducible (first | apply t_seq | apply t_region | apply t_block | apply t_ret | apply t_skip | apply t_exit | apply l_nil | apply x_then | apply x_pass_exit | apply x_pass_ret | apply x_block_ret | apply x_block_normal | apply x_block_here | apply x_block_out rfl) | refine lWv rfl ?_ | refine l_no rfl ?_ | refine tT rfl rfl ?_ | refine tF rfl rfl ?_ | refine lT rfl rfl ?_ | refine lF rfl rfl ?_)
      refine t_for (α := Nat) (fun i => [(0, .pointer (some ⟨hb, 0, none⟩)), (139, .agg (v8A u)), (140, .int .i64 i)]) (fun i => i ≤ 8)
        (fun i => [pt hb (.cells (part8 v.l u.l i).toArray 104 (0, 0))]) (fun i => 8 - i) 0 ⟨rfl, rfl, rfl, trivial⟩ (Nat.zero_le _) (fun w' hw' => hw'.sub (.cons _ (.cons _ (.refl _)))) fun i hi => ?_
      by_cases hi2 : i < 8
      · have hat := v8_at u hi2
        have hp8 := part8_at v.l u.l hi2
        have hup := part8_up v.l u.l hi2
        (repeat first | with_reducible (first | apply t_seq | apply t_region | apply t_block | apply t_ret | apply t_skip | apply t_exit | apply l_nil | apply x_then | apply x_pass_exit | apply x_pass_ret | apply x_block_ret | apply x_block_normal | apply x_block_here | apply x_block_out rfl) | refine lWv rfl ?_ | refine l_no rfl ?_ | refine tT rfl rfl ?_ | refine tF rfl rfl ?_ | refine lT rfl rfl ?_ | refine lF rfl rfl ?_)
        refine l_w rfl (v_arrat rfl rfl rfl rfl rfl hi2 hat) ?_
        (repeat first | with_reducible (first | apply t_seq | apply t_region | apply t_block | apply t_ret | apply t_skip | apply t_exit | apply l_nil | apply x_then | apply x_pass_exit | apply x_pass_ret | apply x_block_ret | apply x_block_normal | apply x_block_here | apply x_block_out rfl) | refine lWv rfl ?_ | refine l_no rfl ?_ | refine tT rfl rfl ?_ | refine tF rfl rfl ?_ | refine lT rfl rfl ?_ | refine lF rfl rfl ?_)
        refine t_drawm [0] 9 rfl rfl (by kernel_rfl) ?_
        (repeat first | refine dWv [] rfl rfl rfl ?_ | refine dno [] rfl rfl rfl ?_ | refine dT [] rfl rfl rfl rfl ?_ | refine dF [] rfl rfl rfl rfl ?_)
        refine d_v [] rfl rfl (by kernel_rfl) (fun _ h => h) rfl rfl (v_loadp rfl rfl (.head _) (by rw [Nat.zero_add, List.getElem?_toArray]; exact hp8)) ?_
        (repeat first | refine dWv [] rfl rfl rfl ?_ | refine dno [] rfl rfl rfl ?_ | refine dT [] rfl rfl rfl rfl ?_ | refine dF [] rfl rfl rfl rfl ?_)
        refine d_tail ⟨by kernel_rfl, by kernel_rfl⟩ rfl rfl (o_store1 rfl rfl rfl rfl rfl rfl (by simp [part8]; omega)) fun _ => ?_
        (repeat first | with_reducible (first | apply t_seq | apply t_region | apply t_block | apply t_ret | apply t_skip | apply t_exit | apply l_nil | apply x_then | apply x_pass_exit | apply x_pass_ret | apply x_block_ret | apply x_block_normal | apply x_block_here | apply x_block_out rfl) | refine lWv rfl ?_ | refine l_no rfl ?_ | refine tT rfl rfl ?_ | refine tF rfl rfl ?_ | refine lT rfl rfl ?_ | refine lF rfl rfl ?_)
        refine x_round (i + 1) ⟨rfl, rfl, rfl, trivial⟩ hi2 (fun w' hw' => ?_) (by omega)
        rw [List.setIfInBounds_toArray, Nat.zero_add, hup] at hw'
        exact hw'
      · obtain rfl : i = 8 := by omega
        (repeat first | with_reducible (first | apply t_seq | apply t_region | apply t_block | apply t_ret | apply t_skip | apply t_exit | apply l_nil | apply x_then | apply x_pass_exit | apply x_pass_ret | apply x_block_ret | apply x_block_normal | apply x_block_here | apply x_block_out rfl) | refine lWv rfl ?_ | refine l_no rfl ?_ | refine tT rfl rfl ?_ | refine tF rfl rfl ?_ | refine lT rfl rfl ?_ | refine lF rfl rfl ?_)
        exact x_ct0N () rfl rfl trivial (.refl _) (by simp [pt_stable])
end Go.Proofs.YtdkonngkbbgcgaaGreatDoor
