/- package sha: the hash of bytes. -/
import Derived.Test.YtdkonngkbbgcgaaGreatDoorShx
namespace Go.Proofs.YtdkonngkbbgcgaaGreatDoor
open Go.RowKit Go.Eng
set_option maxRecDepth 100000
set_option maxHeartbeats 40000000
/-- The last blocks, behind so many stores of the length's bytes. -/
def lastT (r : Bys) (L N i : Nat) : Bys := (r ++ [128]) ++ (List.replicate (L - r.length - 1 - i) 0 ++ (be64 N).drop (8 - i))
theorem set_mid (A D : Bys) (k : Nat) (x : UInt8) : (A ++ (List.replicate (k + 1) 0 ++ D)).set (A.length + k) x = A ++ (List.replicate k 0 ++ x :: D) := by
  rw [List.set_append_right _ _ (by omega), Nat.add_sub_cancel_left]
  congr 1
  induction k with
  | zero => rfl
  | succ k ih => rw [List.replicate_succ, List.cons_append, List.set_cons_succ, ih, List.replicate_succ, List.cons_append]
theorem be_drop (N : Nat) : ∀ {i : Nat}, i < 8 → (be64 N).drop (8 - (i + 1)) = UInt8.ofNat (N / 2 ^ (8 * i)) :: (be64 N).drop (8 - i)
  | 0, _ => by rw [Nat.mul_zero, Nat.pow_zero, Nat.div_one]; rfl
  | 1, _ => rfl
  | 2, _ => rfl
  | 3, _ => rfl
  | 4, _ => rfl
  | 5, _ => rfl
  | 6, _ => rfl
  | 7, _ => rfl
theorem last_up (r : Bys) {L N i : Nat} (hi : i < 8) (hL : r.length + 9 ≤ L) : (lastT r L N i).set (L - 1 - i) (UInt8.ofNat (N / 2 ^ (8 * i))) = lastT r L N (i + 1) := by
  unfold lastT
  rw [be_drop N hi, show L - r.length - 1 - i = (L - r.length - 1 - (i + 1)) + 1 by omega]
  have := set_mid (r ++ [128]) ((be64 N).drop (8 - i)) (L - r.length - 1 - (i + 1)) (UInt8.ofNat (N / 2 ^ (8 * i)))
  have e : (r ++ [(128 : UInt8)]).length + (L - r.length - 1 - (i + 1)) = L - 1 - i := by rw [List.length_append, List.length_singleton]; omega
  rw [e] at this
  exact this
theorem last_zero (r : Bys) (L N : Nat) (hL : r.length < L) : (r ++ List.replicate (L - r.length) 0).set r.length 128 = lastT r L N 0 := by
  rw [List.set_append_right _ _ (by omega), Nat.sub_self, show L - r.length = (L - r.length - 1) + 1 by omega, List.replicate_succ]
  unfold lastT
  have : (be64 N).drop (8 - 0) = [] := rfl
  rw [this, Nat.sub_zero, List.append_nil, List.append_assoc]
  simp
theorem last_all (bs : Bys) {r : Bys} {L e : Nat} (hr : r = bs.drop (64 * (bs.length / 64))) (hL : L = 64 * e) (he : e = if bs.length % 64 + 9 > 64 then 2 else 1) : lastT r L (8 * bs.length) 8 = r ++ padOf bs.length := by
  have hl : r.length = bs.length % 64 := by rw [hr, List.length_drop]; omega
  have hz : L - r.length - 1 - 8 = (119 - bs.length % 64) % 64 := by
    rw [hL, hl, he]
    split <;> omega
  unfold lastT padOf
  rw [hz, List.append_assoc]
  rfl
theorem last_len (r : Bys) {L N : Nat} (hL : r.length + 9 ≤ L) {i : Nat} (hi : i ≤ 8) : (lastT r L N i).length = L := by
  unfold lastT
  simp only [List.length_append, List.length_cons, List.length_nil, List.length_replicate, List.length_drop]
  have : (be64 N).length = 8 := rfl
  omega
/-- The bytes of a hash that are out. -/
def outP (v : V8) (k : Nat) : Bys := (hashL v).take k ++ List.replicate (32 - k) 0
theorem hash_at (v : V8) : ∀ {i j : Nat}, i < 8 → j < 4 → (hashL v)[4 * i + j]? = some (byteAt (v.l.getD i 0) j) := fun {i j} hi hj => by
  match i, j, hi, hj with
  | 0, 0, _, _ => rfl
  | 0, 1, _, _ => rfl
  | 0, 2, _, _ => rfl
  | 0, 3, _, _ => rfl
  | 1, 0, _, _ => rfl
  | 1, 1, _, _ => rfl
  | 1, 2, _, _ => rfl
  | 1, 3, _, _ => rfl
  | 2, 0, _, _ => rfl
  | 2, 1, _, _ => rfl
  | 2, 2, _, _ => rfl
  | 2, 3, _, _ => rfl
  | 3, 0, _, _ => rfl
  | 3, 1, _, _ => rfl
  | 3, 2, _, _ => rfl
  | 3, 3, _, _ => rfl
  | 4, 0, _, _ => rfl
  | 4, 1, _, _ => rfl
  | 4, 2, _, _ => rfl
  | 4, 3, _, _ => rfl
  | 5, 0, _, _ => rfl
  | 5, 1, _, _ => rfl
  | 5, 2, _, _ => rfl
  | 5, 3, _, _ => rfl
  | 6, 0, _, _ => rfl
  | 6, 1, _, _ => rfl
  | 6, 2, _, _ => rfl
  | 6, 3, _, _ => rfl
  | 7, 0, _, _ => rfl
  | 7, 1, _, _ => rfl
  | 7, 2, _, _ => rfl
  | 7, 3, _, _ => rfl
theorem out_up (v : V8) {k : Nat} {x : UInt8} (hk : k < 32) (hx : (hashL v)[k]? = some x) : (outP v k).set k x = outP v (k + 1) := by
  have hl : ((hashL v).take k).length = k := by rw [List.length_take, hashL_length]; omega
  unfold outP
  rw [List.take_add_one, hx, show 32 - k = (32 - (k + 1)) + 1 by omega, List.replicate_succ]
  conv => lhs; arg 2; rw [← hl]
  rw [List.set_append_right _ _ (by omega), Nat.sub_self, List.append_assoc]
  rfl
theorem byte_val (x : W32) (j : Nat) : (Value.int .u8 (((x >>> (24 - 8 * j)).toNat % 256 : Nat) : Int)) = .int .u8 ((byteAt x j).toNat : Int) := by
  rw [byteAt, BitVec.toNat_ushiftRight, Nat.shiftRight_eq_div_pow]
  simp
theorem sha_calls (a : Option Addr) (n c : Nat) (bs : Bys) (hn : bs.length = n) (hc : n ≤ c) (hz : n ≤ 1000000000) (w : World) (hr : Rd w a (bytesV bs)) (ht : Tabs w) :
    Pu Tryz.prog 16 #[.slice a n c] w (hashV (shaF bs)) := by
  refine pu_of [_] Tryz.func16 rfl rfl ?_
  simp only [argSlots]
  (repeat first | with_reducible (first | apply t_seq | apply t_region | apply t_block | apply t_ret | apply t_skip | apply t_exit | apply l_nil | apply x_then | apply x_pass_exit | apply x_pass_ret | apply x_block_ret | apply x_block_normal | apply x_block_here | apply x_block_out rfl) | refine lWv rfl ?_ | refine l_no rfl ?_ | refine tT rfl rfl ?_ | refine tF rfl rfl ?_ | refine lT rfl rfl ?_ | refine lF rfl rfl ?_)
  refine l_alloca rfl rfl fun b2 hb2 => ?_
  (repeat first | with_reducible (first | apply t_seq | apply t_region | apply t_block | apply t_ret | apply t_skip | apply t_exit | apply l_nil | apply x_then | apply x_pass_exit | apply x_pass_ret | apply x_block_ret | apply x_block_normal | apply x_block_here | apply x_block_out rfl) | refine lWv rfl ?_ | refine l_no rfl ?_ | refine tT rfl rfl ?_ | refine tF rfl rfl ?_ | refine lT rfl rfl ?_ | refine lF rfl rfl ?_)
  refine l_w rfl (v_loadcE (xs := H8.l.map w32) rfl rfl (fun w' hw' => (ht.keep hw').first) (c := v8A H8) rfl) ?_
  refine l_alloca rfl rfl fun b3 hb3 => ?_
  refine l_op rfl (o_storea rfl rfl rfl rfl rfl rfl) fun _ => ?_
  (repeat first | with_reducible (first | apply t_seq | apply t_region | apply t_block | apply t_ret | apply t_skip | apply t_exit | apply l_nil | apply x_then | apply x_pass_exit | apply x_pass_ret | apply x_block_ret | apply x_block_normal | apply x_block_here | apply x_block_out rfl) | refine lWv rfl ?_ | refine l_no rfl ?_ | refine tT rfl rfl ?_ | refine tF rfl rfl ?_ | refine lT rfl rfl ?_ | refine lF rfl rfl ?_)
  have htop := ht.top
  have hF3 : ∀ k, k < 3 → k ≠ b3 := fun k hk e => by have := htop k hk; omega
  refine t_for (α := Nat × Option Addr × Nat) (fun y => [(0, .slice y.2.1 (n - 64 * y.1) y.2.2), (2, .pointer (some ⟨b2, 0, none⟩)), (3, .pointer (some ⟨b3, 0, none⟩)), (4, .int .u64 ((n * 8 : Nat) : Int))]) (fun y => 64 * y.1 ≤ n ∧ n - 64 * y.1 ≤ y.2.2 ∧ Rd w y.2.1 (bytesV (bs.drop (64 * y.1))))
    (fun y => [wordsI b3 (eatN Kf H8 bs y.1), pt b2 (.cells (bytesV (List.replicate 32 0)).toArray 23 (0, 0))]) (fun y => n - 64 * y.1) (0, a, c) ⟨rfl, rfl, rfl, rfl, trivial⟩ ⟨Nat.zero_le _, hc, hr⟩ (fun w' hw' => hw') fun ⟨j, a', c'⟩ ⟨h1, h2, h3⟩ => ?_
  simp only at h1 h2 h3 ⊢
  by_cases h64 : 64 ≤ n - 64 * j
  · have hcut := eat_cut (K := Kf) bs j H8 (by omega)
    have hdl : (bs.drop (64 * j)).length = n - 64 * j := by rw [List.length_drop, hn]
    (repeat first | with_reducible (first | apply t_seq | apply t_region | apply t_block | apply t_ret | apply t_skip | apply t_exit | apply l_nil | apply x_then | apply x_pass_exit | apply x_pass_ret | apply x_block_ret | apply x_block_normal | apply x_block_here | apply x_block_out rfl) | refine lWv rfl ?_ | refine l_no rfl ?_ | refine tT rfl rfl ?_ | refine tF rfl rfl ?_ | refine lT rfl rfl ?_ | refine lF rfl rfl ?_)
    refine l_opg rfl (o_cu (pre := [wordsI b3 (eatN Kf H8 bs j)]) rfl (by kernel_rfl) rfl (by simp [pt_stable, own_stable, mp_stable]) (fun w1 hw1 hh1 ha1 => eats_calls b3 (eatN Kf H8 bs j) a' c' ((bs.drop (64 * j)).take 64) (by rw [List.length_take, hdl]; omega) w1 (ht.keep hw1) hF3 (fun w' hf => by rw [bytesV_take]; exact (h3.fr2 hw1.fr hf (fun k ⟨it, h5, h6⟩ => by rw [List.mem_singleton.1 h5] at h6; rw [show k = b3 from h6]; exact hb3)).take 64) hh1)) fun ⟨x, hx⟩ => ?_
    rw [hcut]
    (repeat first | with_reducible (first | apply t_seq | apply t_region | apply t_block | apply t_ret | apply t_skip | apply t_exit | apply l_nil | apply x_then | apply x_pass_exit | apply x_pass_ret | apply x_block_ret | apply x_block_normal | apply x_block_here | apply x_block_out rfl) | refine lWv rfl ?_ | refine l_no rfl ?_ | refine tT rfl rfl ?_ | refine tF rfl rfl ?_ | refine lT rfl rfl ?_ | refine lF rfl rfl ?_)
    rw [show n - 64 * j - 64 = n - 64 * (j + 1) by omega]
    refine x_round (j + 1, slAt a' (decide (c' = 64)) (64 * 1), c' - 64) ⟨rfl, rfl, rfl, rfl, trivial⟩ ⟨by simp only; omega, by simp only; omega, ?_⟩ (fun w' hw' => hw') (by simp only; omega)
    have := h3.drop1 64 (by rw [bytesV_length, hdl]; exact h2)
    rwa [← bytesV_drop, List.drop_drop] at this
  · obtain ⟨q, hq⟩ : ∃ q, n / 64 = q := ⟨_, rfl⟩
    obtain rfl : j = q := by omega
    have hlast := sha_last bs
    rw [hn, hq] at hlast
    obtain ⟨r, hrd⟩ : ∃ r, bs.drop (64 * j) = r := ⟨_, rfl⟩
    have hrl : r.length = n - 64 * j := by rw [← hrd, List.length_drop, hn]
    rw [hrd] at h3 hlast
    obtain ⟨V, hV⟩ : ∃ V, eatN Kf H8 bs j = V := ⟨_, rfl⟩
    rw [hV] at hlast ⊢
    obtain ⟨e, he⟩ : ∃ e, (if n % 64 + 9 > 64 then 2 else 1) = e := ⟨_, rfl⟩
    rw [he] at hlast
    have hmod : n % 64 = r.length := by omega
    (repeat first | with_reducible (first | apply t_seq | apply t_region | apply t_block | apply t_ret | apply t_skip | apply t_exit | apply l_nil | apply x_then | apply x_pass_exit | apply x_pass_ret | apply x_block_ret | apply x_block_normal | apply x_block_here | apply x_block_out rfl) | refine lWv rfl ?_ | refine l_no rfl ?_ | refine tT rfl rfl ?_ | refine tF rfl rfl ?_ | refine lT rfl rfl ?_ | refine lF rfl rfl ?_)
    refine l_op rfl (o_maker rfl rfl rfl rfl rfl (by decide)) fun ⟨b5, hb5⟩ => ?_
    (repeat first | with_reducible (first | apply t_seq | apply t_region | apply t_block | apply t_ret | apply t_skip | apply t_exit | apply l_nil | apply x_then | apply x_pass_exit | apply x_pass_ret | apply x_block_ret | apply x_block_normal | apply x_block_here | apply x_block_out rfl) | refine lWv rfl ?_ | refine l_no rfl ?_ | refine tT rfl rfl ?_ | refine tF rfl rfl ?_ | refine lT rfl rfl ?_ | refine lF rfl rfl ?_)
    refine t_join (w0 := w) (F := none') (α := Nat) (fun b5 => [(0, .slice a' (n - 64 * j) c'), (2, .pointer (some ⟨b2, 0, none⟩)), (3, .pointer (some ⟨b3, 0, none⟩)), (4, .int .u64 ((n * 8 : Nat) : Int)), (5, .slice (some ⟨b5, 0, none⟩) (64 * e) (64 * e))]) (fun b5 => w.heap.size ≤ b5)
      (fun b5 => [pt b5 (.cells (bytesV (List.replicate (64 * e) 0)).toArray 5 (0, 0)), wordsI b3 V, pt b2 (.cells (bytesV (List.replicate 32 0)).toArray 23 (0, 0))]) ?_ fun b5 hb5 => ?_
    · by_cases h9 : r.length + 9 > 64
      · obtain rfl : 2 = e := by rw [← he, hmod, if_pos h9]
        (repeat first | with_reducible (first | apply t_seq | apply t_region | apply t_block | apply t_ret | apply t_skip | apply t_exit | apply l_nil | apply x_then | apply x_pass_exit | apply x_pass_ret | apply x_block_ret | apply x_block_normal | apply x_block_here | apply x_block_out rfl) | refine lWv rfl ?_ | refine l_no rfl ?_ | refine tT rfl rfl ?_ | refine tF rfl rfl ?_ | refine lT rfl rfl ?_ | refine lF rfl rfl ?_)
        refine l_op rfl (o_maker rfl rfl rfl rfl rfl (by decide)) fun ⟨b6, hb6⟩ => ?_
        (repeat first | with_reducible (first | apply t_seq | apply t_region | apply t_block | apply t_ret | apply t_skip | apply t_exit | apply l_nil | apply x_then | apply x_pass_exit | apply x_pass_ret | apply x_block_ret | apply x_block_normal | apply x_block_here | apply x_block_out rfl) | refine lWv rfl ?_ | refine l_no rfl ?_ | refine tT rfl rfl ?_ | refine tF rfl rfl ?_ | refine lT rfl rfl ?_ | refine lF rfl rfl ?_)
        refine x_join b6 ⟨rfl, rfl, rfl, rfl, rfl, trivial⟩ hb6 (fun w' hw' => ?_)
        rw [zerosB] at hw'
        exact hw'.sub (.cons_cons _ (.cons _ (.refl _)))
      · obtain rfl : 1 = e := by rw [← he, hmod, if_neg h9]
        (repeat first | with_reducible (first | apply t_seq | apply t_region | apply t_block | apply t_ret | apply t_skip | apply t_exit | apply l_nil | apply x_then | apply x_pass_exit | apply x_pass_ret | apply x_block_ret | apply x_block_normal | apply x_block_here | apply x_block_out rfl) | refine lWv rfl ?_ | refine l_no rfl ?_ | refine tT rfl rfl ?_ | refine tF rfl rfl ?_ | refine lT rfl rfl ?_ | refine lF rfl rfl ?_)
        refine x_join b5 ⟨rfl, rfl, rfl, rfl, rfl, trivial⟩ hb5 (fun w' hw' => ?_)
        rw [zerosB] at hw'
        exact hw'
    · obtain ⟨L, hL⟩ : ∃ L, 64 * e = L := ⟨_, rfl⟩
      have hrL : r.length + 9 ≤ L := by
        rw [← hL, ← he, hmod]; split <;> omega
      have hL2 : L ≤ 128 := by rw [← hL, ← he]; split <;> omega
      have hall := last_all bs (r := r) (L := L) (e := e) (by rw [hn, hq]; exact hrd.symm) hL.symm (by rw [hn]; exact he.symm)
      rw [hn] at hall
      rw [hL]
      have hlr := last_zero r L (8 * n) (by omega)
      have hput := bytesV_put L r
      have hmin : min (n - 64 * j) L = r.length := by omega
      (repeat first | with_reducible (first | apply t_seq | apply t_region | apply t_block | apply t_ret | apply t_skip | apply t_exit | apply l_nil | apply x_then | apply x_pass_exit | apply x_pass_ret | apply x_block_ret | apply x_block_normal | apply x_block_here | apply x_block_out rfl) | refine lWv rfl ?_ | refine l_no rfl ?_ | refine tT rfl rfl ?_ | refine tF rfl rfl ?_ | refine lT rfl rfl ?_ | refine lF rfl rfl ?_)
      refine l_op rfl (o_copyr (cur := bytesV (List.replicate L 0)) (cs := bytesV r) rfl rfl rfl rfl rfl (by rw [bytesV_length, hmin, Nat.mul_one]) (fun w' hw' => h3.keep hw') (fun h => by rcases h3 with h4 | ⟨b, off, h4, -⟩; (have := congrArg List.length h4; rw [bytesV_length, hrl] at this; exact this); (rw [h] at h4; cases h4)) (by rw [bytesV_length, bytesV_length, List.length_replicate]; omega) (bytesV_one _)) fun _ => ?_
      rw [hput, hmin]
      (repeat first | with_reducible (first | apply t_seq | apply t_region | apply t_block | apply t_ret | apply t_skip | apply t_exit | apply l_nil | apply x_then | apply x_pass_exit | apply x_pass_ret | apply x_block_ret | apply x_block_normal | apply x_block_here | apply x_block_out rfl) | refine lWv rfl ?_ | refine l_no rfl ?_ | refine tT rfl rfl ?_ | refine tF rfl rfl ?_ | refine lT rfl rfl ?_ | refine lF rfl rfl ?_)
      refine l_op rfl (o_store1 rfl rfl rfl rfl rfl rfl (by rw [List.size_toArray, bytesV_length, List.length_append, List.length_replicate]; omega)) fun _ => ?_
      rw [Nat.zero_add, show (Value.int .u8 128) = .int .u8 (((128 : UInt8).toNat : Nat) : Int) from rfl, bytesV_set, hlr]
      (repeat first | with_reducible (first | apply t_seq | apply t_region | apply t_block | apply t_ret | apply t_skip | apply t_exit | apply l_nil | apply x_then | apply x_pass_exit | apply x_pass_ret | apply x_block_ret | apply x_block_normal | apply x_block_here | apply x_block_out rfl) | refine lWv rfl ?_ | refine l_no rfl ?_ | refine tT rfl rfl ?_ | refine tF rfl rfl ?_ | refine lT rfl rfl ?_ | refine lF rfl rfl ?_)
      refine t_for (α := Nat) (fun i => [(0, .slice a' (n - 64 * j) c'), (2, .pointer (some ⟨b2, 0, none⟩)), (3, .pointer (some ⟨b3, 0, none⟩)), (4, .int .u64 ((n * 8 : Nat) : Int)), (5, .slice (some ⟨b5, 0, none⟩) L L), (35, .int .i64 i)]) (fun i => i ≤ 8)
        (fun i => [pt b5 (.cells (bytesV (lastT r L (8 * n) i)).toArray 5 (0, 0)), wordsI b3 V, pt b2 (.cells (bytesV (List.replicate 32 0)).toArray 23 (0, 0))]) (fun i => 8 - i) 0 ⟨rfl, rfl, rfl, rfl, rfl, rfl, trivial⟩ (Nat.zero_le _) (fun w' hw' => hw') fun i hi => ?_
      by_cases hi2 : i < 8
      · have hup := last_up r (N := 8 * n) hi2 hrL
        have hlen := last_len r (N := 8 * n) hrL hi
        (repeat first | with_reducible (first | apply t_seq | apply t_region | apply t_block | apply t_ret | apply t_skip | apply t_exit | apply l_nil | apply x_then | apply x_pass_exit | apply x_pass_ret | apply x_block_ret | apply x_block_normal | apply x_block_here | apply x_block_out rfl) | refine lWv rfl ?_ | refine l_no rfl ?_ | refine tT rfl rfl ?_ | refine tF rfl rfl ?_ | refine lT rfl rfl ?_ | refine lF rfl rfl ?_)
        refine l_w rfl (v_cvM rfl rfl rfl) ?_
        (repeat first | with_reducible (first | apply t_seq | apply t_region | apply t_block | apply t_ret | apply t_skip | apply t_exit | apply l_nil | apply x_then | apply x_pass_exit | apply x_pass_ret | apply x_block_ret | apply x_block_normal | apply x_block_here | apply x_block_out rfl) | refine lWv rfl ?_ | refine l_no rfl ?_ | refine tT rfl rfl ?_ | refine tF rfl rfl ?_ | refine lT rfl rfl ?_ | refine lF rfl rfl ?_)
        rw [show (Value.int .u8 ((n * 8 / 2 ^ (8 * i) % 256 : Nat) : Int)) = .int .u8 ((UInt8.ofNat (8 * n / 2 ^ (8 * i))).toNat : Int) by rw [Nat.mul_comm n 8]; simp]
        refine l_op rfl (o_store1 rfl rfl rfl rfl rfl rfl (by rw [List.size_toArray, bytesV_length, hlen]; omega)) fun _ => ?_
        rw [Nat.zero_add, bytesV_set, hup]
        (repeat first | with_reducible (first | apply t_seq | apply t_region | apply t_block | apply t_ret | apply t_skip | apply t_exit | apply l_nil | apply x_then | apply x_pass_exit | apply x_pass_ret | apply x_block_ret | apply x_block_normal | apply x_block_here | apply x_block_out rfl) | refine lWv rfl ?_ | refine l_no rfl ?_ | refine tT rfl rfl ?_ | refine tF rfl rfl ?_ | refine lT rfl rfl ?_ | refine lF rfl rfl ?_)
        exact x_round (i + 1) ⟨rfl, rfl, rfl, rfl, rfl, rfl, trivial⟩ hi2 (fun w' hw' => hw') (by omega)
      · obtain rfl : i = 8 := by omega
        have hlen := last_len r (N := 8 * n) hrL (Nat.le_refl 8)
        rw [hall] at hlen ⊢
        obtain ⟨T, hT⟩ : ∃ T, r ++ padOf n = T := ⟨_, rfl⟩
        rw [hT] at hlen hlast ⊢
        (repeat first | with_reducible (first | apply t_seq | apply t_region | apply t_block | apply t_ret | apply t_skip | apply t_exit | apply l_nil | apply x_then | apply x_pass_exit | apply x_pass_ret | apply x_block_ret | apply x_block_normal | apply x_block_here | apply x_block_out rfl) | refine lWv rfl ?_ | refine l_no rfl ?_ | refine tT rfl rfl ?_ | refine tF rfl rfl ?_ | refine lT rfl rfl ?_ | refine lF rfl rfl ?_)
        refine t_for (α := Nat × Option Addr × Nat) (fun y => [(2, .pointer (some ⟨b2, 0, none⟩)), (3, .pointer (some ⟨b3, 0, none⟩)), (5, .slice y.2.1 (L - 64 * y.1) y.2.2)]) (fun y => 64 * y.1 ≤ L ∧ L - 64 * y.1 ≤ y.2.2 ∧ ∀ w', (pt b5 (.cells (bytesV T).toArray 5 (0, 0))).prop w' → Rd w' y.2.1 (bytesV (T.drop (64 * y.1))))
          (fun y => [wordsI b3 (eatN Kf V T y.1), pt b5 (.cells (bytesV T).toArray 5 (0, 0)), pt b2 (.cells (bytesV (List.replicate 32 0)).toArray 23 (0, 0))]) (fun y => L - 64 * y.1) (0, some ⟨b5, 0, none⟩, L) ⟨rfl, rfl, rfl, trivial⟩ ⟨Nat.zero_le _, Nat.le_refl _, fun w' hp => .inr ⟨b5, 0, rfl, rangeAt_pt hp⟩⟩ (fun w' hw' => hw'.perm (bring1 _ _ _)) fun ⟨i, ai, ci⟩ ⟨g1, g2, g3⟩ => ?_
        simp only at g1 g2 g3 ⊢
        by_cases g64 : 0 < L - 64 * i
        · have hcut := eat_cut (K := Kf) T i V (by omega)
          have hdl : (T.drop (64 * i)).length = L - 64 * i := by rw [List.length_drop, hlen]
          (repeat first | with_reducible (first | apply t_seq | apply t_region | apply t_block | apply t_ret | apply t_skip | apply t_exit | apply l_nil | apply x_then | apply x_pass_exit | apply x_pass_ret | apply x_block_ret | apply x_block_normal | apply x_block_here | apply x_block_out rfl) | refine lWv rfl ?_ | refine l_no rfl ?_ | refine tT rfl rfl ?_ | refine tF rfl rfl ?_ | refine lT rfl rfl ?_ | refine lF rfl rfl ?_)
          refine l_opg rfl (o_cu (pre := [wordsI b3 (eatN Kf V T i)]) rfl (by kernel_rfl) rfl (by simp [pt_stable, own_stable, mp_stable]) (fun w1 hw1 hh1 ha1 => eats_calls b3 (eatN Kf V T i) ai ci ((T.drop (64 * i)).take 64) (by rw [List.length_take, hdl]; omega) w1 (ht.keep hw1) hF3 (fun w' hf => by rw [bytesV_take]; exact (g3 w' (hw1.beside (.head _) (pt_stable _ _ _) hf)).take 64) hh1)) fun ⟨x, hx⟩ => ?_
          rw [hcut]
          (repeat first | with_reducible (first | apply t_seq | apply t_region | apply t_block | apply t_ret | apply t_skip | apply t_exit | apply l_nil | apply x_then | apply x_pass_exit | apply x_pass_ret | apply x_block_ret | apply x_block_normal | apply x_block_here | apply x_block_out rfl) | refine lWv rfl ?_ | refine l_no rfl ?_ | refine tT rfl rfl ?_ | refine tF rfl rfl ?_ | refine lT rfl rfl ?_ | refine lF rfl rfl ?_)
          rw [show L - 64 * i - 64 = L - 64 * (i + 1) by omega]
          refine x_round (i + 1, slAt ai (decide (ci = 64)) (64 * 1), ci - 64) ⟨rfl, rfl, rfl, trivial⟩ ⟨by simp only; omega, by simp only; omega, fun w' hp => ?_⟩ (fun w' hw' => hw') (by simp only; omega)
          have := (g3 w' hp).drop1 64 (by rw [bytesV_length, hdl]; exact g2)
          rwa [← bytesV_drop, List.drop_drop] at this
        · obtain rfl : i = e := by omega
          rw [← hlast]
          have hsF : shaF bs = hashL (shaV bs) := rfl
          rw [hsF]
          generalize shaV bs = v
          (repeat first | with_reducible (first | apply t_seq | apply t_region | apply t_block | apply t_ret | apply t_skip | apply t_exit | apply l_nil | apply x_then | apply x_pass_exit | apply x_pass_ret | apply x_block_ret | apply x_block_normal | apply x_block_here | apply x_block_out rfl) | refine lWv rfl ?_ | refine l_no rfl ?_ | refine tT rfl rfl ?_ | refine tF rfl rfl ?_ | refine lT rfl rfl ?_ | refine lF rfl rfl ?_)
          refine l_alloca rfl rfl fun b7 hb7 => ?_
          (repeat first | with_reducible (first | apply t_seq | apply t_region | apply t_block | apply t_ret | apply t_skip | apply t_exit | apply l_nil | apply x_then | apply x_pass_exit | apply x_pass_ret | apply x_block_ret | apply x_block_normal | apply x_block_here | apply x_block_out rfl) | refine lWv rfl ?_ | refine l_no rfl ?_ | refine tT rfl rfl ?_ | refine tF rfl rfl ?_ | refine lT rfl rfl ?_ | refine lF rfl rfl ?_)
          refine t_for (α := Nat) (fun i => [(2, .pointer (some ⟨b2, 0, none⟩)), (7, .pointer (some ⟨b7, 0, none⟩)), (59, .agg (v8A v)), (60, .int .i64 i)]) (fun i => i ≤ 8)
            (fun i => [pt b7 (.cells (bytesV (outP v (4 * i))).toArray 23 (0, 0)), pt b2 (.cells (bytesV (List.replicate 32 0)).toArray 23 (0, 0))]) (fun i => 8 - i) 0 ⟨rfl, rfl, rfl, rfl, trivial⟩ (Nat.zero_le _) (fun w' hw' => hw'.sub (.cons_cons _ (.cons _ (.cons _ (.refl _))))) fun k hk => ?_
          by_cases hk2 : k < 8
          · have hat := v8_at v hk2
            (repeat first | with_reducible (first | apply t_seq | apply t_region | apply t_block | apply t_ret | apply t_skip | apply t_exit | apply l_nil | apply x_then | apply x_pass_exit | apply x_pass_ret | apply x_block_ret | apply x_block_normal | apply x_block_here | apply x_block_out rfl) | refine lWv rfl ?_ | refine l_no rfl ?_ | refine tT rfl rfl ?_ | refine tF rfl rfl ?_ | refine lT rfl rfl ?_ | refine lF rfl rfl ?_)
            refine l_w rfl (v_arrat rfl rfl rfl rfl rfl hk2 hat) ?_
            (repeat first | with_reducible (first | apply t_seq | apply t_region | apply t_block | apply t_ret | apply t_skip | apply t_exit | apply l_nil | apply x_then | apply x_pass_exit | apply x_pass_ret | apply x_block_ret | apply x_block_normal | apply x_block_here | apply x_block_out rfl) | refine lWv rfl ?_ | refine l_no rfl ?_ | refine tT rfl rfl ?_ | refine tF rfl rfl ?_ | refine lT rfl rfl ?_ | refine lF rfl rfl ?_)
            refine t_for (α := Nat) (fun q => [(2, .pointer (some ⟨b2, 0, none⟩)), (7, .pointer (some ⟨b7, 0, none⟩)), (8, .int .i64 k), (9, w32 (v.l.getD k 0)), (59, .agg (v8A v)), (60, .int .i64 k), (64, .int .i64 q)]) (fun q => q ≤ 4)
              (fun q => [pt b7 (.cells (bytesV (outP v (4 * k + q))).toArray 23 (0, 0)), pt b2 (.cells (bytesV (List.replicate 32 0)).toArray 23 (0, 0))]) (fun q => 4 - q) 0 ⟨rfl, rfl, rfl, rfl, rfl, rfl, rfl, trivial⟩ (Nat.zero_le _) (fun w' hw' => hw') fun q hq => ?_
            by_cases hq2 : q < 4
            · have hup := out_up v (k := 4 * k + q) (by omega) (hash_at v hk2 hq2)
              have hol : (outP v (4 * k + q)).length = 32 := by rw [outP, List.length_append, List.length_take, hashL_length, List.length_replicate]; omega
              (repeat first | with_reducible (first | apply t_seq | apply t_region | apply t_block | apply t_ret | apply t_skip | apply t_exit | apply l_nil | apply x_then | apply x_pass_exit | apply x_pass_ret | apply x_block_ret | apply x_block_normal | apply x_block_here | apply x_block_out rfl) | refine lWv rfl ?_ | refine l_no rfl ?_ | refine tT rfl rfl ?_ | refine tF rfl rfl ?_ | refine lT rfl rfl ?_ | refine lF rfl rfl ?_)
              refine l_w rfl (v_cvM rfl rfl rfl) ?_
              rw [byte_val]
              (repeat first | with_reducible (first | apply t_seq | apply t_region | apply t_block | apply t_ret | apply t_skip | apply t_exit | apply l_nil | apply x_then | apply x_pass_exit | apply x_pass_ret | apply x_block_ret | apply x_block_normal | apply x_block_here | apply x_block_out rfl) | refine lWv rfl ?_ | refine l_no rfl ?_ | refine tT rfl rfl ?_ | refine tF rfl rfl ?_ | refine lT rfl rfl ?_ | refine lF rfl rfl ?_)
              refine l_op rfl (o_store1 rfl rfl rfl rfl rfl rfl (by rw [List.size_toArray, bytesV_length, hol]; omega)) fun _ => ?_
              rw [Nat.zero_add, bytesV_set, hup]
              (repeat first | with_reducible (first | apply t_seq | apply t_region | apply t_block | apply t_ret | apply t_skip | apply t_exit | apply l_nil | apply x_then | apply x_pass_exit | apply x_pass_ret | apply x_block_ret | apply x_block_normal | apply x_block_here | apply x_block_out rfl) | refine lWv rfl ?_ | refine l_no rfl ?_ | refine tT rfl rfl ?_ | refine tF rfl rfl ?_ | refine lT rfl rfl ?_ | refine lF rfl rfl ?_)
              exact x_round (q + 1) ⟨rfl, rfl, rfl, rfl, rfl, rfl, rfl, trivial⟩ hq2 (fun w' hw' => hw') (by omega)
            · obtain rfl : q = 4 := by omega
              (repeat first | with_reducible (first | apply t_seq | apply t_region | apply t_block | apply t_ret | apply t_skip | apply t_exit | apply l_nil | apply x_then | apply x_pass_exit | apply x_pass_ret | apply x_block_ret | apply x_block_normal | apply x_block_here | apply x_block_out rfl) | refine lWv rfl ?_ | refine l_no rfl ?_ | refine tT rfl rfl ?_ | refine tF rfl rfl ?_ | refine lT rfl rfl ?_ | refine lF rfl rfl ?_)
              exact x_round (k + 1) ⟨rfl, rfl, rfl, rfl, trivial⟩ hk2 (fun w' hw' => hw') (by omega)
          · obtain rfl : k = 8 := by omega
            have hov : outP v (4 * 8) = hashL v := rfl
            have hl32 : (bytesV (hashL v)).length = 32 := by rw [bytesV_length, hashL_length]
            rw [hov]
            (repeat first | with_reducible (first | apply t_seq | apply t_region | apply t_block | apply t_ret | apply t_skip | apply t_exit | apply l_nil | apply x_then | apply x_pass_exit | apply x_pass_ret | apply x_block_ret | apply x_block_normal | apply x_block_here | apply x_block_out rfl) | refine lWv rfl ?_ | refine l_no rfl ?_ | refine tT rfl rfl ?_ | refine tF rfl rfl ?_ | refine lT rfl rfl ?_ | refine lF rfl rfl ?_)
            refine l_op rfl (ho_perm (bring1 _ _ _) (o_storea (cs' := (bytesV (hashL v)).toArray) rfl rfl rfl (by rw [List.size_toArray, hl32]; rfl) (bytesV_one _) (by rw [List.size_toArray, hl32]; rfl))) fun _ => ?_
            (repeat first | with_reducible (first | apply t_seq | apply t_region | apply t_block | apply t_ret | apply t_skip | apply t_exit | apply l_nil | apply x_then | apply x_pass_exit | apply x_pass_ret | apply x_block_ret | apply x_block_normal | apply x_block_here | apply x_block_out rfl) | refine lWv rfl ?_ | refine l_no rfl ?_ | refine tT rfl rfl ?_ | refine tF rfl rfl ?_ | refine lT rfl rfl ?_ | refine lF rfl rfl ?_)
            exact x_pu rfl ⟨_, rfl, loada_run (by rw [List.size_toArray, hl32]; rfl) (.head _)⟩ rfl
end Go.Proofs.YtdkonngkbbgcgaaGreatDoor
