/- The document's constants by roots: what its loops compute, and that these are the program's constants. -/
import Derived.Test.YtdkonngkbbgcgaaGreatDoorCrcp
namespace Go.Proofs.YtdkonngkbbgcgaaGreatDoor
set_option maxRecDepth 100000
abbrev M64 : Nat := 18446744073709551616
/-- A row of a product: k steps of it. -/
def tIn (a b : List Nat) (i : Nat) (o : List Nat) : Nat → List Nat × Nat
  | 0 => (o, 0)
  | k + 1 =>
    let s := tIn a b i o k
    let n := ((s.1.getD (i + k) 0 + a.getD i 0 * b.getD k 0 % M64) % M64 + s.2) % M64
    (s.1.set (i + k) (n % 65536), n / 65536)
def tOut (a b : List Nat) : Nat → List Nat
  | 0 => List.replicate 9 0
  | i + 1 => (tIn a b i (tOut a b i) (9 - i)).1
def timesF (a b : List Nat) : List Nat := tOut a b 9
/-- The groups from the k-th down. -/
def lessF (a b : List Nat) : Nat → Bool
  | 0 => false
  | k + 1 => if a.getD k 0 = b.getD k 0 then lessF a b k else decide (a.getD k 0 < b.getD k 0)
def wideF (n : Nat) : List Nat := [n % 65536, n / 65536 % 65536, n / 65536 / 65536 % 65536, n / 65536 / 65536 / 65536 % 65536, 0, 0, 0, 0, 0]
/-- A power of a number: k products. -/
def powF (x : List Nat) : Nat → List Nat
  | 0 => x
  | k + 1 => timesF (powF x k) x
/-- The bits of a root: k of them, from the highest. -/
def rootF (n : List Nat) (p : Nat) : Nat → Nat
  | 0 => 0
  | k + 1 => if lessF n (powF (wideF (rootF n p k + 2 ^ (36 - k))) (p - 1)) 9 then rootF n p k else rootF n p k + 2 ^ (36 - k)
def rootOf (prime p : Nat) : Nat := rootF ((List.replicate 9 0).set (2 * p) prime) p 37 % 4294967296
/-! ### groups of 16 bits as a number -/
def val : List Nat → Nat
  | [] => 0
  | d :: l => d + 65536 * val l
def Dig (l : List Nat) : Prop := l.length = 9 ∧ ∀ i, l.getD i 0 < 65536
theorem val_set : ∀ (l : List Nat) (i x : Nat), i < l.length → val (l.set i x) + l.getD i 0 * 65536 ^ i = val l + x * 65536 ^ i
  | [], i, x, h => by cases h
  | d :: l, 0, x, h => by simp only [List.set_cons_zero, val, List.getD_cons_zero, Nat.pow_zero]; omega
  | d :: l, i + 1, x, h => by
    have := val_set l i x (Nat.lt_of_succ_lt_succ h)
    simp only [List.set_cons_succ, val, List.getD_cons_succ, Nat.pow_succ]
    have e : ∀ y : Nat, y * (65536 ^ i * 65536) = 65536 * (y * 65536 ^ i) := fun y => by rw [← Nat.mul_assoc, Nat.mul_comm]
    rw [e, e]
    omega
theorem val_take : ∀ (l : List Nat) (k : Nat), k < l.length → val (l.take (k + 1)) = val (l.take k) + l.getD k 0 * 65536 ^ k
  | [], k, h => by cases h
  | d :: l, 0, h => by simp only [List.take_succ_cons, List.take_zero, val, List.getD_cons_zero, Nat.pow_zero]; omega
  | d :: l, k + 1, h => by
    have := val_take l k (Nat.lt_of_succ_lt_succ h)
    rw [List.take_succ_cons, List.take_succ_cons]
    simp only [val, List.getD_cons_succ, Nat.pow_succ]
    have e : ∀ y : Nat, y * (65536 ^ k * 65536) = 65536 * (y * 65536 ^ k) := fun y => by rw [← Nat.mul_assoc, Nat.mul_comm]
    rw [e]
    omega
theorem val_split : ∀ (l : List Nat) (k : Nat), k ≤ l.length → val l = val (l.take k) + 65536 ^ k * val (l.drop k)
  | l, 0, _ => by simp [val]
  | [], k + 1, h => by cases h
  | d :: l, k + 1, h => by
    have := val_split l k (Nat.le_of_succ_le_succ h)
    rw [List.take_succ_cons, List.drop_succ_cons]
    simp only [val, Nat.pow_succ]
    rw [Nat.mul_comm (65536 ^ k) 65536, Nat.mul_assoc, this]
    omega
theorem val_lt {l : List Nat} (h : ∀ i, l.getD i 0 < 65536) : ∀ k, k ≤ l.length → val (l.take k) < 65536 ^ k
  | 0, _ => by simp [val]
  | k + 1, hk => by
    have ih := val_lt h k (by omega)
    rw [val_take l k (by omega), Nat.pow_succ]
    have := h k
    have : l.getD k 0 * 65536 ^ k ≤ 65535 * 65536 ^ k := Nat.mul_le_mul_right _ (by omega)
    omega
theorem dig_set {l : List Nat} (h : Dig l) (i : Nat) {x : Nat} (hx : x < 65536) : Dig (l.set i x) := by
  refine ⟨by rw [List.length_set]; exact h.1, fun j => ?_⟩
  rw [List.getD_eq_getElem?_getD, List.getElem?_set]
  split
  · split
    · exact hx
    · exact Nat.zero_lt_of_lt hx
  · exact (List.getD_eq_getElem?_getD ▸ h.2 j : l[j]?.getD 0 < 65536)
theorem tIn_is {a b o : List Nat} (ha : Dig a) (hb : Dig b) (ho : Dig o) (i : Nat) : ∀ k, i + k ≤ 9 → Dig (tIn a b i o k).1 ∧ (tIn a b i o k).2 < 65536 ∧ val (tIn a b i o k).1 + (tIn a b i o k).2 * 65536 ^ (i + k) = val o + a.getD i 0 * 65536 ^ i * val (b.take k)
  | 0, _ => ⟨ho, (by decide : (0 : Nat) < 65536), by simp [tIn, val]⟩
  | k + 1, hk => by
    obtain ⟨h1, h2, h3⟩ := tIn_is ha hb ho i k (by omega)
    have hs := val_set (tIn a b i o k).1 (i + k)
    have ht := val_take b k (by rw [hb.1]; omega)
    simp only [tIn]
    generalize (tIn a b i o k).1 = q at h1 h3 hs ⊢
    generalize (tIn a b i o k).2 = c at h2 h3 ⊢
    have hq := h1.2 (i + k)
    have hai := ha.2 i
    have hbk := hb.2 k
    generalize hqd : q.getD (i + k) 0 = qd at hq hs ⊢
    generalize had : a.getD i 0 = ai at hai h3 ⊢
    generalize hbd : b.getD k 0 = bk at hbk ht ⊢
    have hm : ai * bk ≤ 65535 * 65535 := Nat.mul_le_mul (by omega) (by omega)
    have hn : ((qd + ai * bk % M64) % M64 + c) % M64 = qd + ai * bk + c := by unfold M64; omega
    rw [hn]
    generalize hn2 : qd + ai * bk + c = n
    have hs' := hs (n % 65536) (by rw [h1.1]; omega)
    have hdiv : n % 65536 + 65536 * (n / 65536) = n := Nat.mod_add_div n 65536
    refine ⟨dig_set h1 _ (Nat.mod_lt _ (by decide)), by omega, ?_⟩
    rw [ht]
    have e1 : 65536 ^ (i + (k + 1)) = 65536 ^ (i + k) * 65536 := by rw [← Nat.add_assoc, Nat.pow_succ]
    have e2 : ai * 65536 ^ i * (val (b.take k) + bk * 65536 ^ k) = ai * 65536 ^ i * val (b.take k) + ai * bk * 65536 ^ (i + k) := by
      rw [Nat.mul_add, Nat.pow_add]
      congr 1
      simp only [Nat.mul_assoc, Nat.mul_left_comm, Nat.mul_comm]
    rw [e1, e2]
    generalize 65536 ^ (i + k) = D at hs' h3 ⊢
    have e3 : n / 65536 * (D * 65536) = 65536 * (n / 65536) * D := by simp only [Nat.mul_assoc, Nat.mul_left_comm, Nat.mul_comm]
    rw [e3]
    have e4 : n % 65536 * D + 65536 * (n / 65536) * D = qd * D + ai * bk * D + c * D := by rw [← Nat.add_mul, hdiv, ← hn2, Nat.add_mul, Nat.add_mul]
    omega
theorem tOut_is {a b : List Nat} (ha : Dig a) (hb : Dig b) : ∀ i, i ≤ 9 → Dig (tOut a b i) ∧ val (tOut a b i) % 65536 ^ 9 = val (a.take i) * val b % 65536 ^ 9
  | 0, _ => ⟨⟨rfl, fun i => by
      show (List.replicate 9 0).getD i 0 < 65536
      rw [List.getD_eq_getElem?_getD, List.getElem?_replicate]; split <;> decide⟩, by simp [tOut, val, List.replicate]⟩
  | i + 1, hi => by
    obtain ⟨h1, h2⟩ := tOut_is ha hb i (by omega)
    obtain ⟨h3, h4, h5⟩ := tIn_is ha hb h1 i (9 - i) (by omega)
    refine ⟨h3, ?_⟩
    show val (tIn a b i (tOut a b i) (9 - i)).1 % 65536 ^ 9 = _
    rw [val_take a i (by rw [ha.1]; omega), Nat.add_mul]
    rw [show i + (9 - i) = 9 by omega] at h5
    have hsp := val_split b (9 - i) (by rw [hb.1]; omega)
    have e1 : val (tIn a b i (tOut a b i) (9 - i)).1 % 65536 ^ 9 = (val (tOut a b i) + a.getD i 0 * 65536 ^ i * val (b.take (9 - i))) % 65536 ^ 9 := by
      rw [← h5, Nat.add_mul_mod_self_right]
    have e2 : a.getD i 0 * 65536 ^ i * val b % 65536 ^ 9 = a.getD i 0 * 65536 ^ i * val (b.take (9 - i)) % 65536 ^ 9 := by
      rw [hsp, Nat.mul_add]
      have : a.getD i 0 * 65536 ^ i * (65536 ^ (9 - i) * val (b.drop (9 - i))) = a.getD i 0 * val (b.drop (9 - i)) * 65536 ^ 9 := by
        have hp : (65536 : Nat) ^ 9 = 65536 ^ i * 65536 ^ (9 - i) := by rw [← Nat.pow_add, show i + (9 - i) = 9 by omega]
        rw [hp]
        simp only [Nat.mul_assoc, Nat.mul_left_comm, Nat.mul_comm]
      rw [this, Nat.add_mul_mod_self_right]
    rw [e1, Nat.add_mod, h2, ← e2, ← Nat.add_mod]
theorem times_is {a b : List Nat} (ha : Dig a) (hb : Dig b) : Dig (timesF a b) ∧ val (timesF a b) = val a * val b % 65536 ^ 9 := by
  obtain ⟨h1, h2⟩ := tOut_is ha hb 9 (Nat.le_refl _)
  refine ⟨h1, ?_⟩
  have h3 := val_lt h1.2 9 (by rw [h1.1]; exact Nat.le_refl _)
  rw [List.take_of_length_le (by rw [h1.1]; exact Nat.le_refl _)] at h3
  rw [List.take_of_length_le (by rw [ha.1]; exact Nat.le_refl _), Nat.mod_eq_of_lt h3] at h2
  exact h2
theorem less_is {a b : List Nat} (ha : Dig a) (hb : Dig b) : ∀ k, k ≤ 9 → lessF a b k = decide (val (a.take k) < val (b.take k))
  | 0, _ => by simp [lessF, val]
  | k + 1, hk => by
    have ih := less_is ha hb k (by omega)
    have h1 := val_lt ha.2 k (by rw [ha.1]; omega)
    have h2 := val_lt hb.2 k (by rw [hb.1]; omega)
    rw [lessF, val_take a k (by rw [ha.1]; omega), val_take b k (by rw [hb.1]; omega), ih]
    generalize a.getD k 0 = x
    generalize b.getD k 0 = y
    generalize val (a.take k) = p at h1 ⊢
    generalize val (b.take k) = q at h2 ⊢
    generalize 65536 ^ k = D at h1 h2 ⊢
    by_cases hxy : x = y
    · subst hxy
      rw [if_pos rfl]
      exact decide_eq_decide.2 ⟨fun h => by omega, fun h => by omega⟩
    · rw [if_neg hxy]
      refine decide_eq_decide.2 ⟨fun h => ?_, fun h => ?_⟩
      · have : (x + 1) * D ≤ y * D := Nat.mul_le_mul_right _ h
        rw [Nat.add_mul, Nat.one_mul] at this
        omega
      · rcases Nat.lt_or_gt_of_ne hxy with hl | hl
        · exact hl
        · have : (y + 1) * D ≤ x * D := Nat.mul_le_mul_right _ hl
          rw [Nat.add_mul, Nat.one_mul] at this
          omega
theorem dig_wide (n : Nat) : Dig (wideF n) := by
  refine ⟨rfl, fun i => ?_⟩
  unfold wideF
  match i with
  | 0 => exact Nat.mod_lt _ (by decide)
  | 1 => exact Nat.mod_lt _ (by decide)
  | 2 => exact Nat.mod_lt _ (by decide)
  | 3 => exact Nat.mod_lt _ (by decide)
  | 4 => exact (by decide : (0 : Nat) < 65536)
  | 5 => exact (by decide : (0 : Nat) < 65536)
  | 6 => exact (by decide : (0 : Nat) < 65536)
  | 7 => exact (by decide : (0 : Nat) < 65536)
  | 8 => exact (by decide : (0 : Nat) < 65536)
  | n + 9 => exact (by decide : (0 : Nat) < 65536)
theorem val_wide (n : Nat) (h : n < M64) : val (wideF n) = n := by
  unfold wideF M64 at *
  simp only [val]
  omega
theorem pow_is {x : List Nat} (hx : Dig x) (h : val x < 137438953472) : ∀ k, k ≤ 2 → Dig (powF x k) ∧ val (powF x k) = val x ^ (k + 1)
  | 0, _ => ⟨hx, (Nat.pow_one _).symm⟩
  | k + 1, hk => by
    obtain ⟨h1, h2⟩ := pow_is hx h k (by omega)
    obtain ⟨h3, h4⟩ := times_is h1 hx
    refine ⟨h3, ?_⟩
    show val (timesF (powF x k) x) = _
    rw [h4, h2, Nat.pow_succ _ (k + 1), Nat.mod_eq_of_lt]
    have : val x ^ (k + 1) * val x = val x ^ (k + 2) := (Nat.pow_succ ..).symm
    rw [this]
    have h5 : val x ^ (k + 2) ≤ 137438953472 ^ (k + 2) := Nat.pow_le_pow_left (by omega) _
    have h6 : (137438953472 : Nat) ^ (k + 2) ≤ 137438953472 ^ 3 := Nat.pow_le_pow_right (by decide) (by omega)
    have h7 : (137438953472 : Nat) ^ 3 < 65536 ^ 9 := by decide
    omega
/-- A root's bits, over numbers. -/
def rootN (n p : Nat) : Nat → Nat
  | 0 => 0
  | k + 1 => if n < (rootN n p k + 2 ^ (36 - k)) ^ p then rootN n p k else rootN n p k + 2 ^ (36 - k)
theorem rootN_lt (n p : Nat) : ∀ k, k ≤ 37 → rootN n p k + 2 ^ (37 - k) ≤ 137438953472
  | 0, _ => by simp [rootN]
  | k + 1, hk => by
    have ih := rootN_lt n p k (by omega)
    have e : 2 ^ (37 - k) = 2 ^ (36 - k) + 2 ^ (36 - k) := by
      rw [show 37 - k = (36 - k) + 1 by omega, Nat.pow_succ]; omega
    have hpos : 0 < 2 ^ (36 - k) := Nat.two_pow_pos _
    rw [show 37 - (k + 1) = 36 - k by omega]
    simp only [rootN]
    split <;> omega
theorem root_is {n : List Nat} (hn : Dig n) {p : Nat} (hp : 1 ≤ p ∧ p ≤ 3) : ∀ k, k ≤ 37 → rootF n p k = rootN (val n) p k
  | 0, _ => rfl
  | k + 1, hk => by
    have ih := root_is hn hp k (by omega)
    have hl := rootN_lt (val n) p k (by omega)
    have e : 2 ^ (37 - k) = 2 ^ (36 - k) + 2 ^ (36 - k) := by
      rw [show 37 - k = (36 - k) + 1 by omega, Nat.pow_succ]; omega
    have hpos : 0 < 2 ^ (36 - k) := Nat.two_pow_pos _
    rw [rootF, rootN, ih]
    have hw := val_wide (rootN (val n) p k + 2 ^ (36 - k)) (by unfold M64; omega)
    obtain ⟨h1, h2⟩ := pow_is (dig_wide (rootN (val n) p k + 2 ^ (36 - k))) (by rw [hw]; omega) (p - 1) (by omega)
    rw [less_is hn h1 9 (Nat.le_refl _), List.take_of_length_le (by rw [hn.1]; exact Nat.le_refl _), List.take_of_length_le (by rw [h1.1]; exact Nat.le_refl _), h2, hw, show p - 1 + 1 = p by omega]
    simp only [decide_eq_true_eq]
theorem rootOf_is (prime p : Nat) (hq : prime < 65536) (hp : 1 ≤ p ∧ p ≤ 3) : rootOf prime p = rootN (prime * 65536 ^ (2 * p)) p 37 % 4294967296 := by
  have hd : Dig (List.replicate 9 0) := ⟨rfl, fun i => by
      rw [List.getD_eq_getElem?_getD, List.getElem?_replicate]; split <;> decide⟩
  have hs := val_set (List.replicate 9 0) (2 * p) prime (by simp; omega)
  have hz : val (List.replicate 9 0) = 0 := rfl
  have hg : (List.replicate 9 0).getD (2 * p) 0 = 0 := by
    rw [List.getD_eq_getElem?_getD, List.getElem?_replicate]; split <;> rfl
  rw [hz, hg, Nat.zero_mul, Nat.add_zero, Nat.zero_add] at hs
  rw [rootOf, root_is (dig_set hd _ hq) hp 37 (Nat.le_refl _), hs]
def primes : List Nat := [2, 3, 5, 7, 11, 13, 17, 19, 23, 29, 31, 37, 41, 43, 47, 53, 59, 61, 67, 71, 73, 79, 83, 89, 97, 101, 103, 107, 109, 113, 127, 131, 137, 139, 149, 151, 157, 163, 167, 173, 179, 181, 191, 193, 197, 199, 211, 223, 227, 229, 233, 239, 241, 251, 257, 263, 269, 271, 277, 281, 283, 293, 307, 311]
def shaK : List Nat := [
  0x428a2f98, 0x71374491, 0xb5c0fbcf, 0xe9b5dba5, 0x3956c25b, 0x59f111f1,
  0x923f82a4, 0xab1c5ed5, 0xd807aa98, 0x12835b01, 0x243185be, 0x550c7dc3,
  0x72be5d74, 0x80deb1fe, 0x9bdc06a7, 0xc19bf174, 0xe49b69c1, 0xefbe4786,
  0x0fc19dc6, 0x240ca1cc, 0x2de92c6f, 0x4a7484aa, 0x5cb0a9dc, 0x76f988da,
  0x983e5152, 0xa831c66d, 0xb00327c8, 0xbf597fc7, 0xc6e00bf3, 0xd5a79147,
  0x06ca6351, 0x14292967, 0x27b70a85, 0x2e1b2138, 0x4d2c6dfc, 0x53380d13,
  0x650a7354, 0x766a0abb, 0x81c2c92e, 0x92722c85, 0xa2bfe8a1, 0xa81a664b,
  0xc24b8b70, 0xc76c51a3, 0xd192e819, 0xd6990624, 0xf40e3585, 0x106aa070,
  0x19a4c116, 0x1e376c08, 0x2748774c, 0x34b0bcb5, 0x391c0cb3, 0x4ed8aa4a,
  0x5b9cca4f, 0x682e6ff3, 0x748f82ee, 0x78a5636f, 0x84c87814, 0x8cc70208,
  0x90befffa, 0xa4506ceb, 0xbef9a3f7, 0xc67178f2]
def shaH : List Nat := [0x6a09e667, 0xbb67ae85, 0x3c6ef372, 0xa54ff53a, 0x510e527f, 0x9b05688c, 0x1f83d9ab, 0x5be0cd19]
theorem primes_lt : ∀ q ∈ primes, q < 65536 := by decide
theorem root_H : (primes.take 8).map (rootOf · 2) = shaH := by
  have : (primes.take 8).map (rootOf · 2) = (primes.take 8).map (fun q => rootN (q * 65536 ^ (2 * 2)) 2 37 % 4294967296) := List.map_congr_left fun q hq => rootOf_is q 2 (primes_lt q (List.mem_of_mem_take hq)) (by decide)
  rw [this]
  decide +kernel
theorem root_K : primes.map (rootOf · 3) = shaK := by
  have : primes.map (rootOf · 3) = primes.map (fun q => rootN (q * 65536 ^ (2 * 3)) 3 37 % 4294967296) := List.map_congr_left fun q hq => rootOf_is q 3 (primes_lt q hq) (by decide)
  rw [this]
  decide +kernel
end Go.Proofs.YtdkonngkbbgcgaaGreatDoor
