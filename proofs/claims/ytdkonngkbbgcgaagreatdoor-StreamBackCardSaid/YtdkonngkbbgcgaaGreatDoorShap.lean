/- The hash of bytes: what it is, over words of 32 bits. -/
import Derived.Test.YtdkonngkbbgcgaaGreatDoorRootp
namespace Go.Proofs.YtdkonngkbbgcgaaGreatDoor
set_option maxRecDepth 100000
abbrev W32 := BitVec 32
def rotr (x : W32) (n : Nat) : W32 := x >>> n ||| x <<< (32 - n)
def sg0 (x : W32) : W32 := rotr x 7 ^^^ rotr x 18 ^^^ x >>> 3
def sg1 (x : W32) : W32 := rotr x 17 ^^^ rotr x 19 ^^^ x >>> 10
structure V8 where
  a : W32
  b : W32
  c : W32
  d : W32
  e : W32
  f : W32
  g : W32
  h : W32
def V8.l (v : V8) : List W32 := [v.a, v.b, v.c, v.d, v.e, v.f, v.g, v.h]
def V8.add (v w : V8) : V8 := ⟨v.a + w.a, v.b + w.b, v.c + w.c, v.d + w.d, v.e + w.e, v.f + w.f, v.g + w.g, v.h + w.h⟩
def tA (v : V8) (k w : W32) : W32 := v.h + (rotr v.e 6 ^^^ rotr v.e 11 ^^^ rotr v.e 25) + ((v.e &&& v.f) ^^^ (~~~v.e &&& v.g)) + k + w
def tB (v : V8) : W32 := (rotr v.a 2 ^^^ rotr v.a 13 ^^^ rotr v.a 22) + ((v.a &&& v.b) ^^^ (v.a &&& v.c) ^^^ (v.b &&& v.c))
def rnd (v : V8) (k w : W32) : V8 := ⟨tA v k w + tB v, v.a, v.b, v.c, v.d + tA v k w, v.e, v.f, v.g⟩
/-- The words of a block's rounds. -/
def sched (m : Nat → W32) (i : Nat) : W32 :=
  if h : i < 16 then m i else sched m (i - 16) + sg0 (sched m (i - 15)) + sched m (i - 7) + sg1 (sched m (i - 2))
termination_by i
decreasing_by all_goals omega
theorem sched_low (m : Nat → W32) {i : Nat} (h : i < 16) : sched m i = m i := by rw [sched, dif_pos h]
theorem sched_up (m : Nat → W32) {i : Nat} (h : 16 ≤ i) : sched m i = sched m (i - 16) + sg0 (sched m (i - 15)) + sched m (i - 7) + sg1 (sched m (i - 2)) := by rw [sched, dif_neg (by omega)]
theorem sched_congr {m m' : Nat → W32} (h : ∀ i, i < 16 → m i = m' i) : ∀ i, sched m i = sched m' i := fun i => by
  induction i using Nat.strongRecOn with
  | ind i ih =>
    by_cases hi : i < 16
    · rw [sched_low m hi, sched_low m' hi, h i hi]
    · rw [sched_up m (by omega), sched_up m' (by omega), ih _ (by omega), ih _ (by omega), ih _ (by omega), ih _ (by omega)]
def runs (K m : Nat → W32) (v : V8) : Nat → V8
  | 0 => v
  | i + 1 => rnd (runs K m v i) (K i) (m i)
theorem runs_congr {K m m' : Nat → W32} (h : ∀ i, m i = m' i) (v : V8) : ∀ n, runs K m v n = runs K m' v n
  | 0 => rfl
  | n + 1 => by rw [runs, runs, runs_congr h v n, h]
def eat (K m : Nat → W32) (v : V8) : V8 := v.add (runs K (sched m) v 64)
theorem eat_congr {K m m' : Nat → W32} (h : ∀ i, i < 16 → m i = m' i) (v : V8) : eat K m v = eat K m' v := by
  rw [eat, eat, runs_congr (sched_congr h)]
def beW (a b c d : UInt8) : W32 := BitVec.ofNat 32 (a.toNat * 16777216 + b.toNat * 65536 + c.toNat * 256 + d.toNat)
def wordAt (p : List UInt8) (i : Nat) : W32 := beW (p.getD (4 * i) 0) (p.getD (4 * i + 1) 0) (p.getD (4 * i + 2) 0) (p.getD (4 * i + 3) 0)
/-- So many blocks of bytes. -/
def eatN (K : Nat → W32) (v : V8) (p : List UInt8) : Nat → V8
  | 0 => v
  | n + 1 => eat K (fun i => wordAt p (16 * n + i)) (eatN K v p n)
theorem wordAt_congr {p q : List UInt8} {i j : Nat} (h : ∀ k, k < 4 → p.getD (4 * i + k) 0 = q.getD (4 * j + k) 0) : wordAt p i = wordAt q j := by
  have h0 := h 0 (by decide)
  have h1 := h 1 (by decide)
  have h2 := h 2 (by decide)
  have h3 := h 3 (by decide)
  rw [Nat.add_zero, Nat.add_zero] at h0
  rw [wordAt, wordAt, h0, h1, h2, h3]
theorem eatN_congr {K : Nat → W32} {p q : List UInt8} (v : V8) : ∀ n, (∀ i, i < 64 * n → p.getD i 0 = q.getD i 0) → eatN K v p n = eatN K v q n
  | 0, _ => rfl
  | n + 1, h => by
    rw [eatN, eatN, eatN_congr v n fun i hi => h i (by omega)]
    exact eat_congr (fun i hi => wordAt_congr fun k hk => h _ (by omega)) _
theorem getD_append_left {p q : List UInt8} {i : Nat} (h : i < p.length) : (p ++ q).getD i 0 = p.getD i 0 := by
  rw [List.getD_eq_getElem?_getD, List.getD_eq_getElem?_getD, List.getElem?_append_left h]
theorem getD_append_right {p q : List UInt8} {i : Nat} (h : p.length ≤ i) : (p ++ q).getD i 0 = q.getD (i - p.length) 0 := by
  rw [List.getD_eq_getElem?_getD, List.getD_eq_getElem?_getD, List.getElem?_append_right h]
theorem eatN_append {K : Nat → W32} {p q : List UInt8} {n : Nat} (hp : p.length = 64 * n) (v : V8) : ∀ m, eatN K v (p ++ q) (n + m) = eatN K (eatN K v p n) q m
  | 0 => eatN_congr v n fun i hi => getD_append_left (by omega)
  | m + 1 => by
    show eat K _ (eatN K v (p ++ q) (n + m)) = eat K _ _
    rw [eatN_append hp v m]
    refine eat_congr (fun i hi => wordAt_congr fun k hk => ?_) _
    have hnm : n.add m = n + m := rfl
    rw [getD_append_right (by omega)]
    congr 1
    omega
/-- A block that is cut out. -/
theorem word_cut (p : List UInt8) (j : Nat) {i : Nat} (hi : i < 16) (hj : 64 * (j + 1) ≤ p.length) : wordAt ((p.drop (64 * j)).take 64) i = wordAt p (16 * j + i) :=
  wordAt_congr fun k hk => by
    rw [List.getD_eq_getElem?_getD, List.getD_eq_getElem?_getD, List.getElem?_take_of_lt (by omega), List.getElem?_drop, show 64 * j + (4 * i + k) = 4 * (16 * j + i) + k by omega]
theorem eat_cut {K : Nat → W32} (p : List UInt8) (j : Nat) (v : V8) (hj : 64 * (j + 1) ≤ p.length) : eat K (wordAt ((p.drop (64 * j)).take 64)) (eatN K v p j) = eatN K v p (j + 1) :=
  eat_congr (fun _ hi => word_cut p j hi hj) _
/-- The bytes of a length. -/
def be64 (n : Nat) : List UInt8 := [UInt8.ofNat (n / 2 ^ 56), UInt8.ofNat (n / 2 ^ 48), UInt8.ofNat (n / 2 ^ 40), UInt8.ofNat (n / 2 ^ 32), UInt8.ofNat (n / 2 ^ 24), UInt8.ofNat (n / 2 ^ 16), UInt8.ofNat (n / 2 ^ 8), UInt8.ofNat n]
/-- What stands behind bytes. -/
def padOf (n : Nat) : List UInt8 := 128 :: (List.replicate ((119 - n % 64) % 64) 0 ++ be64 (8 * n))
def Kf (i : Nat) : W32 := BitVec.ofNat 32 (shaK.getD i 0)
def H8 : V8 := ⟨0x6a09e667#32, 0xbb67ae85#32, 0x3c6ef372#32, 0xa54ff53a#32, 0x510e527f#32, 0x9b05688c#32, 0x1f83d9ab#32, 0x5be0cd19#32⟩
/-- The hash of bytes. -/
def shaV (s : List UInt8) : V8 := eatN Kf H8 (s ++ padOf s.length) ((s ++ padOf s.length).length / 64)
theorem pad_length (n : Nat) : (padOf n).length = (119 - n % 64) % 64 + 9 := by
  simp [padOf, be64]
/-- Blocks, and then what is left with what stands behind it. -/
theorem sha_last (s : List UInt8) : shaV s = eatN Kf (eatN Kf H8 s (s.length / 64)) (s.drop (64 * (s.length / 64)) ++ padOf s.length) (if s.length % 64 + 9 > 64 then 2 else 1) := by
  have hn : 64 * (s.length / 64) ≤ s.length := Nat.mul_div_le _ _
  have hp : (s.take (64 * (s.length / 64))).length = 64 * (s.length / 64) := by rw [List.length_take]; omega
  have hs : s ++ padOf s.length = s.take (64 * (s.length / 64)) ++ (s.drop (64 * (s.length / 64)) ++ padOf s.length) := by rw [← List.append_assoc, List.take_append_drop]
  have hl : (s ++ padOf s.length).length / 64 = s.length / 64 + (if s.length % 64 + 9 > 64 then 2 else 1) := by
    rw [List.length_append, pad_length]
    split <;> omega
  rw [shaV, hl, hs, eatN_append hp]
  congr 1
  exact eatN_congr _ _ fun i hi => by
    rw [List.getD_eq_getElem?_getD, List.getD_eq_getElem?_getD, List.getElem?_take_of_lt hi]
/-- The bytes of a hash. -/
def byteAt (x : W32) (j : Nat) : UInt8 := UInt8.ofNat (x.toNat / 2 ^ (24 - 8 * j))
def hashL (v : V8) : List UInt8 := v.l.flatMap fun x => [byteAt x 0, byteAt x 1, byteAt x 2, byteAt x 3]
theorem hashL_length (v : V8) : (hashL v).length = 32 := rfl
def shaF (s : List UInt8) : List UInt8 := hashL (shaV s)
/-! ### the ring of the program -/
/-- Which word stands in the ring at j when n words are out. -/
def ringIx (n j : Nat) : Nat := max n 16 - 16 + (j + 15 * max n 16) % 16
theorem ringIx_low {n j : Nat} (hn : n ≤ 16) (hj : j < 16) : ringIx n j = j := by unfold ringIx; omega
theorem ringIx_at {n d : Nat} (hn : 16 ≤ n) (hd : d < 16) : ringIx n ((n + d) % 16) = n - 16 + d := by unfold ringIx; omega
theorem ringIx_next {n j : Nat} (hn : 16 ≤ n) (hj : j < 16) : ringIx (n + 1) j = if j = n % 16 then n else ringIx n j := by
  unfold ringIx
  split <;> omega
def ring (m : Nat → W32) (n : Nat) : List W32 := (List.range 16).map fun j => sched m (ringIx n j)
theorem ring_length (m : Nat → W32) (n : Nat) : (ring m n).length = 16 := by simp [ring]
theorem ring_get (m : Nat → W32) (n : Nat) {j : Nat} (hj : j < 16) : (ring m n)[j]? = some (sched m (ringIx n j)) := by
  simp [ring, hj]
theorem ring_low (m : Nat → W32) {n : Nat} (hn : n ≤ 16) : ring m n = (List.range 16).map m :=
  List.map_congr_left fun j hj => by
    have := List.mem_range.1 hj
    rw [ringIx_low hn this, sched_low m this]
/-- A word that is out is put in the ring. -/
theorem ring_up (m : Nat → W32) {n : Nat} (hn : 16 ≤ n) : ring m (n + 1) = (ring m n).set (n % 16) (sched m n) := by
  apply List.ext_getElem?
  intro j
  rw [List.getElem?_set]
  by_cases hj : j < 16
  · rw [ring_get m _ hj, ring_get m _ hj, ringIx_next hn hj, ring_length]
    by_cases h : n % 16 = j
    · rw [if_pos h, if_pos h.symm, if_pos (by omega)]
    · rw [if_neg h, if_neg (fun e => h e.symm)]
  · have h1 : (ring m (n + 1))[j]? = none := List.getElem?_eq_none (by rw [ring_length]; omega)
    have h2 : (ring m n)[j]? = none := List.getElem?_eq_none (by rw [ring_length]; omega)
    rw [h1, h2, if_neg (by omega)]
/-- What the program puts there. -/
theorem ring_word (m : Nat → W32) {n : Nat} (hn : 16 ≤ n) : sched m n = sched m (ringIx n (n % 16)) + (sg0 (sched m (ringIx n ((n + 1) % 16))) + sched m (ringIx n ((n + 9) % 16)) + sg1 (sched m (ringIx n ((n + 14) % 16)))) := by
  have h0 := ringIx_at (n := n) (d := 0) hn (by decide)
  rw [Nat.add_zero, Nat.add_zero] at h0
  rw [h0, ringIx_at hn (by decide), ringIx_at hn (by decide), ringIx_at hn (by decide), sched_up m hn]
  rw [show n - 15 = n - 16 + 1 by omega, show n - 7 = n - 16 + 9 by omega, show n - 2 = n - 16 + 14 by omega]
  simp only [BitVec.add_assoc]
end Go.Proofs.YtdkonngkbbgcgaaGreatDoor
