/- Plain mathematics of bit maps: words and bytes of a set of numbers; how many bits; the least that is not there. Own work; no condition. -/
import Derived.Test.YtplhamichcnmmaaGreatDoorHc01
namespace Go.Eng.Bm
def num (f : Nat → Bool) : Nat → Nat
  | 0 => 0
  | n + 1 => num f n + (bif f n then 2 ^ n else 0)
theorem num_lt (f : Nat → Bool) : ∀ n, num f n < 2 ^ n
  | 0 => by simp [num]
  | n + 1 => by
    have := num_lt f n
    simp only [num, Nat.pow_succ]
    cases f n <;> simp <;> omega
theorem testBit_num (f : Nat → Bool) : ∀ n j, (num f n).testBit j = (decide (j < n) && f j)
  | 0, j => by simp [num]
  | n + 1, j => by
    have hlt := num_lt f n
    have ih := testBit_num f n j
    simp only [num]
    cases hf : f n
    · simp only [cond_false, Nat.add_zero, ih]
      by_cases h : j < n
      · simp [h, Nat.lt_succ_of_lt h]
      · by_cases e : j = n
        · subst e; simp [hf]
        · simp only [h, decide_false, Bool.false_and, show ¬ j < n + 1 by omega]
    · simp only [cond_true]
      rw [Nat.add_comm]
      by_cases h : j < n
      · rw [Nat.testBit_two_pow_add_gt h, ih]; simp [h, Nat.lt_succ_of_lt h]
      · by_cases e : j = n
        · subst e; rw [Nat.testBit_two_pow_add_eq, ih]; simp [hf]
        · have h2 : 2 ^ n + num f n < 2 ^ j := Nat.lt_of_lt_of_le (show 2 ^ n + num f n < 2 ^ (n + 1) by rw [Nat.pow_succ]; omega) (Nat.pow_le_pow_right (by decide) (by omega))
          rw [Nat.testBit_lt_two_pow h2]
          simp [show ¬ j < n + 1 by omega]
theorem num_congr {f g : Nat → Bool} {n : Nat} (h : ∀ j, j < n → f j = g j) : num f n = num g n := Nat.eq_of_testBit_eq fun j => by
  rw [testBit_num, testBit_num]
  by_cases hj : j < n
  · rw [h j hj]
  · simp [hj]
def upd (S : Nat → Bool) (i : Nat) (u : Bool) : Nat → Bool := fun j => if j = i then u else S j
def word (S : Nat → Bool) (k : Nat) : Nat := num (fun i => S (64 * k + i)) 64
def byte (S : Nat → Bool) (k : Nat) : Nat := num (fun i => S (8 * k + i)) 8
theorem word_lt (S : Nat → Bool) (k : Nat) : word S k < 18446744073709551616 := num_lt _ 64
theorem byte_lt (S : Nat → Bool) (k : Nat) : byte S k < 256 := num_lt _ 8
def clr (x j : Nat) : Nat := x &&& (18446744073709551615 ^^^ 2 ^ j)
def setB (x j : Nat) (u : Bool) : Nat := bif u then clr x j ||| 2 ^ j else clr x j
theorem clr_lt {x : Nat} (j : Nat) (h : x < 18446744073709551616) : clr x j < 18446744073709551616 := Nat.lt_of_le_of_lt Nat.and_le_left h
theorem pow_lt {j : Nat} (h : j < 64) : 2 ^ j < 18446744073709551616 := Nat.pow_lt_pow_right (n := 64) (by decide) h
theorem testBit_all (i : Nat) : (18446744073709551615 : Nat).testBit i = decide (i < 64) := Nat.testBit_two_pow_sub_one 64 i
theorem testBit_clr (x j i : Nat) (hx : x < 18446744073709551616) : (clr x j).testBit i = (if i = j then false else x.testBit i) := by
  unfold clr
  rw [Nat.testBit_and, Nat.testBit_xor, testBit_all, Nat.testBit_two_pow]
  by_cases hi : i < 64
  · by_cases e : i = j
    · subst e; simp [hi]
    · simp [hi, e, Ne.symm e]
  · have : x.testBit i = false := Nat.testBit_lt_two_pow (Nat.lt_of_lt_of_le hx (Nat.pow_le_pow_right (n := 2) (i := 64) (by decide) (by omega)))
    simp [this]
theorem testBit_setB (x j i : Nat) (u : Bool) (hx : x < 18446744073709551616) : (setB x j u).testBit i = (if i = j then u else x.testBit i) := by
  unfold setB
  cases u
  · simp only [cond_false]; exact testBit_clr x j i hx
  · simp only [cond_true]
    rw [Nat.testBit_or, testBit_clr x j i hx, Nat.testBit_two_pow]
    by_cases e : i = j
    · subst e; simp
    · simp [e, Ne.symm e]
theorem setB_word (S : Nat → Bool) (k j : Nat) (u : Bool) (hj : j < 64) : setB (word S k) j u = word (upd S (64 * k + j) u) k := Nat.eq_of_testBit_eq fun i => by
  rw [testBit_setB _ _ _ _ (word_lt S k)]
  unfold word
  rw [testBit_num, testBit_num]
  unfold upd
  by_cases e : i = j
  · subst e; simp [hj]
  · simp [e]
theorem word_upd_other (S : Nat → Bool) (i k : Nat) (u : Bool) (h : k ≠ i / 64) : word (upd S i u) k = word S k := num_congr fun j hj => by
  unfold upd
  rw [if_neg (by omega)]
theorem testBit_word (S : Nat → Bool) (k j : Nat) (hj : j < 64) : (word S k).testBit j = S (64 * k + j) := by
  unfold word; rw [testBit_num]; simp [hj]
def cnt (S : Nat → Bool) : Nat → Nat
  | 0 => 0
  | n + 1 => cnt S n + (S n).toNat
theorem cnt_le (S : Nat → Bool) : ∀ n, cnt S n ≤ n
  | 0 => Nat.le_refl _
  | n + 1 => by have := cnt_le S n; simp only [cnt]; cases S n <;> simp <;> omega
theorem cnt_add (S : Nat → Bool) (a : Nat) : ∀ b, cnt S (a + b) = cnt S a + cnt (fun i => S (a + i)) b
  | 0 => rfl
  | b + 1 => by rw [← Nat.add_assoc]; simp only [cnt]; rw [cnt_add S a b]; omega
/-! ### Digits -/
def V (k : Nat) (g : Nat → Nat) : Nat → Nat
  | 0 => 0
  | n + 1 => g 0 + 2 ^ k * V k (fun i => g (i + 1)) n
def M (k : Nat) : Nat → Nat
  | 0 => 0
  | n + 1 => (2 ^ k - 1) + 2 ^ (2 * k) * M k n
theorem V_congr {k : Nat} {g h : Nat → Nat} : ∀ {n : Nat}, (∀ i, i < n → g i = h i) → V k g n = V k h n := by
  intro n
  induction n generalizing g h with
  | zero => intro _; rfl
  | succ n ih => intro e; simp only [V]; rw [e 0 (by omega), ih (g := fun i => g (i + 1)) (h := fun i => h (i + 1)) (fun i hi => e (i + 1) (by omega))]
theorem V_lt {k : Nat} {g : Nat → Nat} : ∀ {n : Nat}, (∀ i, i < n → g i < 2 ^ k) → V k g n < 2 ^ (k * n) := by
  intro n
  induction n generalizing g with
  | zero => intro _; simp [V]
  | succ n ih =>
    intro e
    have h0 := e 0 (by omega)
    have h1 := ih (g := fun i => g (i + 1)) (fun i hi => e (i + 1) (by omega))
    simp only [V]
    rw [Nat.mul_succ, Nat.pow_add, Nat.mul_comm (2 ^ (k * n))]
    have : 2 ^ k * (V k (fun i => g (i + 1)) n + 1) ≤ 2 ^ k * 2 ^ (k * n) := Nat.mul_le_mul_left _ h1
    rw [Nat.mul_add] at this
    omega
theorem V_add {k : Nat} {g h : Nat → Nat} : ∀ {n : Nat}, V k g n + V k h n = V k (fun i => g i + h i) n := by
  intro n
  induction n generalizing g h with
  | zero => rfl
  | succ n ih =>
    simp only [V]
    rw [← ih (g := fun i => g (i + 1)) (h := fun i => h (i + 1)), Nat.mul_add]
    omega
theorem and_split (s a b c d : Nat) (ha : a < 2 ^ s) (hc : c < 2 ^ s) : (a + 2 ^ s * b) &&& (c + 2 ^ s * d) = (a &&& c) + 2 ^ s * (b &&& d) := by
  have hac : a &&& c < 2 ^ s := Nat.lt_of_le_of_lt Nat.and_le_left ha
  rw [Nat.add_comm a, Nat.add_comm c, Nat.add_comm (a &&& c), Nat.two_pow_add_eq_or_of_lt ha, Nat.two_pow_add_eq_or_of_lt hc, Nat.two_pow_add_eq_or_of_lt hac]
  refine Nat.eq_of_testBit_eq fun i => ?_
  simp only [Nat.testBit_and, Nat.testBit_or, Nat.testBit_two_pow_mul]
  by_cases hi : s ≤ i
  · have e1 : a.testBit i = false := Nat.testBit_lt_two_pow (Nat.lt_of_lt_of_le ha (Nat.pow_le_pow_right (by decide) hi))
    have e2 : c.testBit i = false := Nat.testBit_lt_two_pow (Nat.lt_of_lt_of_le hc (Nat.pow_le_pow_right (by decide) hi))
    simp [hi, e1, e2]
  · simp [hi]
theorem low_and (k a b : Nat) (ha : a < 2 ^ k) : (a + 2 ^ k * b) &&& (2 ^ k - 1) = a := by
  rw [Nat.and_two_pow_sub_one_eq_mod, Nat.add_mul_mod_self_left, Nat.mod_eq_of_lt ha]
theorem low_lt (k a b : Nat) (ha : a < 2 ^ k) (hb : b < 2 ^ k) : a + 2 ^ k * b < 2 ^ (2 * k) := by
  have e : 2 ^ (2 * k) = 2 ^ k * 2 ^ k := by rw [Nat.two_mul, Nat.pow_add]
  have : 2 ^ k * (b + 1) ≤ 2 ^ k * 2 ^ k := Nat.mul_le_mul_left _ hb
  rw [Nat.mul_add] at this
  omega
theorem mask_lt (k : Nat) : 2 ^ k - 1 < 2 ^ (2 * k) := by
  have : 2 ^ k ≤ 2 ^ (2 * k) := Nat.pow_le_pow_right (by decide) (by omega)
  have := Nat.two_pow_pos k
  omega
theorem even_and {k : Nat} : ∀ {n : Nat} {g : Nat → Nat}, (∀ i, i < 2 * n → g i < 2 ^ k) → V k g (2 * n) &&& M k n = V (2 * k) (fun i => g (2 * i)) n := by
  intro n
  induction n with
  | zero => intro g _; simp [V, M]
  | succ n ih =>
    intro g hg
    have e : 2 * (n + 1) = 2 * n + 1 + 1 := by omega
    rw [e]
    simp only [V, M]
    have h2 : g 0 + 2 ^ k * (g (0 + 1) + 2 ^ k * V k (fun i => g (i + 1 + 1)) (2 * n)) = (g 0 + 2 ^ k * g 1) + 2 ^ (2 * k) * V k (fun i => g (i + 1 + 1)) (2 * n) := by
      have e : 2 ^ (2 * k) = 2 ^ k * 2 ^ k := by rw [Nat.two_mul, Nat.pow_add]
      rw [e, Nat.mul_add, Nat.mul_assoc]; simp only [Nat.zero_add]; omega
    rw [h2, and_split _ _ _ _ _ (low_lt k _ _ (hg 0 (by omega)) (hg 1 (by omega))) (mask_lt k), low_and k _ _ (hg 0 (by omega)), ih (fun i hi => hg (i + 1 + 1) (by omega))]
    rfl
theorem odd_and {k : Nat} : ∀ {n : Nat} {g : Nat → Nat}, (∀ i, i < 2 * n → g i < 2 ^ k) → (V k g (2 * n) / 2 ^ k) &&& M k n = V (2 * k) (fun i => g (2 * i + 1)) n := by
  intro n
  induction n with
  | zero => intro g _; simp [V, M]
  | succ n ih =>
    intro g hg
    have e : 2 * (n + 1) = 2 * n + 1 + 1 := by omega
    rw [e]
    simp only [V, M]
    have hp := Nat.two_pow_pos k
    generalize hR : V k (fun i => g (i + 1 + 1)) (2 * n) = R
    have h2 : (g 0 + 2 ^ k * (g (0 + 1) + 2 ^ k * R)) / 2 ^ k = (g 1 + 2 ^ k * (R % 2 ^ k)) + 2 ^ (2 * k) * (R / 2 ^ k) := by
      rw [Nat.add_mul_div_left _ _ hp, Nat.div_eq_of_lt (hg 0 (by omega))]
      have e : 2 ^ (2 * k) = 2 ^ k * 2 ^ k := by rw [Nat.two_mul, Nat.pow_add]
      have hd := Nat.mod_add_div R (2 ^ k)
      rw [e, Nat.mul_assoc, Nat.add_assoc, ← Nat.mul_add, hd]
      simp
    rw [h2, and_split _ _ _ _ _ (low_lt k _ _ (hg 1 (by omega)) (Nat.mod_lt _ hp)) (mask_lt k), low_and k _ _ (hg 1 (by omega)), ← hR, ih (fun i hi => hg (i + 1 + 1) (by omega))]
    rfl
theorem V_shift {k : Nat} {g : Nat → Nat} (n : Nat) (h0 : g 0 < 2 ^ k) : V k g (n + 1) / 2 ^ k = V k (fun i => g (i + 1)) n := by
  simp only [V]
  rw [Nat.add_mul_div_left _ _ (Nat.two_pow_pos k), Nat.div_eq_of_lt h0]; simp
theorem V_more {k : Nat} : ∀ {n : Nat} {g : Nat → Nat}, V k g n = V k (fun i => if i < n then g i else 0) (n + 1) := by
  intro n
  induction n with
  | zero => intro g; simp [V]
  | succ n ih =>
    intro g
    rw [V, V, ih (g := fun i => g (i + 1))]
    have : V k (fun i => if i < n then g (i + 1) else 0) (n + 1) = V k (fun i => if i + 1 < n + 1 then g (i + 1) else 0) (n + 1) := V_congr fun i _ => by
      by_cases h : i < n <;> simp [h]
    rw [this]
    simp
theorem V_shift_add {k : Nat} {g : Nat → Nat} (n : Nat) (h0 : g 0 < 2 ^ k) : V k g (n + 1) / 2 ^ k + V k g (n + 1) = V k (fun i => (if i < n then g (i + 1) else 0) + g i) (n + 1) := by
  rw [V_shift n h0, V_more, V_add]
theorem num_V (f : Nat → Bool) : ∀ n, num f n = V 1 (fun i => (f i).toNat) n := by
  have key : ∀ n (f : Nat → Bool), num f (n + 1) = (f 0).toNat + 2 * num (fun i => f (i + 1)) n := by
    intro n
    induction n with
    | zero => intro f; simp [num]; cases f 0 <;> rfl
    | succ n ih =>
      intro f
      rw [num, ih f, num]
      cases f (n + 1)
      · simp
      · simp [Nat.pow_succ]; omega
  intro n
  induction n generalizing f with
  | zero => rfl
  | succ n ih => rw [key, V, ih (fun i => f (i + 1))]
theorem V_shiftn {k : Nat} : ∀ {j n : Nat} {g : Nat → Nat}, (∀ i, i < j → g i < 2 ^ k) → V k g (n + j) / 2 ^ (k * j) = V k (fun i => g (i + j)) n := by
  intro j
  induction j with
  | zero => intro n g _; simp
  | succ j ih =>
    intro n g hg
    rw [Nat.mul_succ, Nat.add_comm (k * j), Nat.pow_add, ← Nat.div_div_eq_div_mul, ← Nat.add_assoc, V_shift _ (hg 0 (by omega)), ih (fun i hi => hg (i + 1) (by omega))]
    exact V_congr fun i _ => by rw [Nat.add_assoc]
theorem V_pad {k : Nat} {g : Nat → Nat} {n : Nat} : ∀ j, V k g n = V k (fun i => if i < n then g i else 0) (n + j)
  | 0 => V_congr fun i hi => by rw [if_pos hi]
  | j + 1 => by
    rw [V_pad j, V_more (n := n + j), ← Nat.add_assoc]
    exact V_congr fun i hi => by by_cases h : i < n <;> simp [h]; omega
theorem V_addshift {k j n : Nat} {g : Nat → Nat} (hg : ∀ i, i < j → g i < 2 ^ k) : V k g (n + j) + V k g (n + j) / 2 ^ (k * j) = V k (fun i => g i + if i < n then g (i + j) else 0) (n + j) := by
  rw [V_shiftn hg, V_pad (n := n) (g := fun i => g (i + j)) j, V_add]
def pop1 (x : Nat) : Nat := (x / 2 &&& 6148914691236517205) + (x &&& 6148914691236517205)
def pop2 (x : Nat) : Nat := (x / 4 &&& 3689348814741910323) + (x &&& 3689348814741910323)
def pop3 (x : Nat) : Nat := (x / 16 + x) &&& 1085102592571150095
theorem toNat_le (b : Bool) : b.toNat ≤ 1 := by cases b <;> decide
def g1 (f : Nat → Bool) (i : Nat) : Nat := (f (2 * i + 1)).toNat + (f (2 * i)).toNat
def g2 (f : Nat → Bool) (i : Nat) : Nat := g1 f (2 * i + 1) + g1 f (2 * i)
def g3 (f : Nat → Bool) (i : Nat) : Nat := g2 f (2 * i + 1) + g2 f (2 * i)
theorem g1_le (f : Nat → Bool) (i : Nat) : g1 f i ≤ 2 := by have := toNat_le (f (2 * i + 1)); have := toNat_le (f (2 * i)); unfold g1; omega
theorem g2_le (f : Nat → Bool) (i : Nat) : g2 f i ≤ 4 := by have := g1_le f (2 * i + 1); have := g1_le f (2 * i); unfold g2; omega
theorem g3_le (f : Nat → Bool) (i : Nat) : g3 f i ≤ 8 := by have := g2_le f (2 * i + 1); have := g2_le f (2 * i); unfold g3; omega
theorem pop1_eq (f : Nat → Bool) : pop1 (num f 64) = V 2 (g1 f) 32 := by
  unfold pop1
  rw [num_V, show (6148914691236517205 : Nat) = M 1 32 from by decide]
  have h := fun i (_ : i < 2 * 32) => Nat.lt_of_le_of_lt (toNat_le (f i)) (show 1 < 2 ^ 1 by decide)
  have h1 := odd_and (k := 1) (n := 32) (g := fun i => (f i).toNat) h
  have h2 := even_and (k := 1) (n := 32) (g := fun i => (f i).toNat) h
  simp only [Nat.pow_one] at h1
  rw [h1, h2, V_add]
  rfl
theorem pop2_eq (f : Nat → Bool) : pop2 (V 2 (g1 f) 32) = V 4 (g2 f) 16 := by
  unfold pop2
  rw [show (3689348814741910323 : Nat) = M 2 16 from by decide]
  have h := fun i (_ : i < 2 * 16) => Nat.lt_of_le_of_lt (g1_le f i) (show 2 < 2 ^ 2 by decide)
  have h1 := odd_and (k := 2) (n := 16) (g := g1 f) h
  have h2 := even_and (k := 2) (n := 16) (g := g1 f) h
  rw [show (2 : Nat) ^ 2 = 4 from rfl] at h1
  rw [h1, h2, V_add]
  rfl
theorem pop3_eq (f : Nat → Bool) : pop3 (V 4 (g2 f) 16) = V 8 (g3 f) 8 := by
  unfold pop3
  rw [show (1085102592571150095 : Nat) = M 4 8 from by decide, show (16 : Nat) = 2 ^ 4 from rfl, show (2 : Nat) ^ 4 = 15 + 1 from rfl]
  have h0 : g2 f 0 < 2 ^ 4 := Nat.lt_of_le_of_lt (g2_le f 0) (by decide)
  have hs := V_shift_add (k := 4) (g := g2 f) 15 h0
  rw [show (2 : Nat) ^ 4 = 15 + 1 from rfl] at hs
  rw [hs]
  have h2 := even_and (k := 4) (n := 8) (g := fun i => (if i < 15 then g2 f (i + 1) else 0) + g2 f i) (fun i _ => by
    have := g2_le f i; have := g2_le f (i + 1)
    by_cases h : i < 15 <;> simp [h] <;> omega)
  rw [show 2 * 8 = 15 + 1 from rfl] at h2
  rw [h2]
  exact V_congr fun i hi => by rw [if_pos (by omega)]; rfl
def pop4 (a : Nat) : Nat := a + a / 256
def pop5 (a : Nat) : Nat := a + a / 65536
def pop6 (a : Nat) : Nat := a + a / 4294967296
def pop (x : Nat) : Nat := (pop6 (pop5 (pop4 (pop3 (pop2 (pop1 x)))))) &&& 127
theorem pop_num (f : Nat → Bool) : pop (num f 64) = cnt f 64 := by
  have hg := g3_le f
  unfold pop pop4 pop5 pop6
  rw [pop1_eq, pop2_eq, pop3_eq]
  have e4 := V_addshift (k := 8) (j := 1) (n := 7) (g := g3 f) (fun i _ => Nat.lt_of_le_of_lt (hg i) (by decide))
  have e5 := V_addshift (k := 8) (j := 2) (n := 6) (g := fun i => g3 f i + if i < 7 then g3 f (i + 1) else 0) (fun i _ => by have := hg i; have := hg (i + 1); by_cases h : i < 7 <;> simp [h] <;> omega)
  have e6 := V_addshift (k := 8) (j := 4) (n := 4) (g := fun i => (g3 f i + if i < 7 then g3 f (i + 1) else 0) + if i < 6 then (g3 f (i + 2) + if i + 2 < 7 then g3 f (i + 2 + 1) else 0) else 0) (fun i _ => by
    have := hg i; have := hg (i + 1); have := hg (i + 2); have := hg (i + 2 + 1)
    by_cases h : i < 7 <;> by_cases h' : i < 6 <;> by_cases h'' : i + 2 < 7 <;> simp [h, h', h''] <;> omega)
  simp only [show (2 : Nat) ^ (8 * 1) = 256 from rfl] at e4
  simp only [show (2 : Nat) ^ (8 * 2) = 65536 from rfl] at e5
  simp only [show (2 : Nat) ^ (8 * 4) = 4294967296 from rfl] at e6
  simp only [show (7 + 1 : Nat) = 8 from rfl] at e4
  simp only [show (6 + 2 : Nat) = 8 from rfl] at e5
  simp only [show (4 + 4 : Nat) = 8 from rfl] at e6
  simp only [e4, e5, e6]
  have h127 := Nat.and_two_pow_sub_one_eq_mod (V 8 (fun i => ((g3 f i + if i < 7 then g3 f (i + 1) else 0) + if i < 6 then (g3 f (i + 2) + if i + 2 < 7 then g3 f (i + 2 + 1) else 0) else 0) + if i < 4 then ((g3 f (i + 4) + if i + 4 < 7 then g3 f (i + 4 + 1) else 0) + if i + 4 < 6 then (g3 f (i + 4 + 2) + if i + 4 + 2 < 7 then g3 f (i + 4 + 2 + 1) else 0) else 0) else 0) 8) 7
  rw [show (2 : Nat) ^ 7 - 1 = 127 from rfl] at h127
  rw [h127]
  rw [show (8 : Nat) = 7 + 1 from rfl, V]
  rw [show (2 : Nat) ^ (7 + 1) = 2 ^ 7 * 2 from rfl, Nat.mul_assoc, Nat.add_mul_mod_self_left]
  have := hg 0; have := hg 1; have := hg 2; have := hg 3; have := hg 4; have := hg 5; have := hg 6; have := hg 7
  simp only [Nat.zero_add, show (0 : Nat) < 7 from by decide, show (0 : Nat) < 6 from by decide, show (2 : Nat) < 7 from by decide, show (0 : Nat) < 4 from by decide, show (4 : Nat) < 7 from by decide, show (4 : Nat) < 6 from by decide, show (4 + 2 : Nat) < 7 from by decide, if_true, Nat.reduceAdd]
  rw [Nat.mod_eq_of_lt (by simp only [show (2 : Nat) ^ 7 = 128 from rfl]; omega)]
  clear e4 e5 e6 h127
  simp only [cnt, g3, g2, g1, Nat.reduceMul, Nat.reduceAdd]
  omega
theorem pop_bounds (f : Nat → Bool) : num f 64 < 18446744073709551616 ∧ pop1 (num f 64) < 18446744073709551616 ∧ pop2 (pop1 (num f 64)) < 18446744073709551616 ∧ pop2 (pop1 (num f 64)) / 16 + pop2 (pop1 (num f 64)) < 18446744073709551616 ∧ pop3 (pop2 (pop1 (num f 64))) < 18446744073709551616 ∧ pop4 (pop3 (pop2 (pop1 (num f 64)))) < 18446744073709551616 ∧ pop5 (pop4 (pop3 (pop2 (pop1 (num f 64))))) < 18446744073709551616 ∧ pop6 (pop5 (pop4 (pop3 (pop2 (pop1 (num f 64)))))) < 18446744073709551616 := by
  have hg := g3_le f
  unfold pop4 pop5 pop6
  rw [pop1_eq, pop2_eq, pop3_eq]
  have e4 := V_addshift (k := 8) (j := 1) (n := 7) (g := g3 f) (fun i _ => Nat.lt_of_le_of_lt (hg i) (by decide))
  have e5 := V_addshift (k := 8) (j := 2) (n := 6) (g := fun i => g3 f i + if i < 7 then g3 f (i + 1) else 0) (fun i _ => by have := hg i; have := hg (i + 1); by_cases h : i < 7 <;> simp [h] <;> omega)
  have e6 := V_addshift (k := 8) (j := 4) (n := 4) (g := fun i => (g3 f i + if i < 7 then g3 f (i + 1) else 0) + if i < 6 then (g3 f (i + 2) + if i + 2 < 7 then g3 f (i + 2 + 1) else 0) else 0) (fun i _ => by
    have := hg i; have := hg (i + 1); have := hg (i + 2); have := hg (i + 2 + 1)
    by_cases h : i < 7 <;> by_cases h' : i < 6 <;> by_cases h'' : i + 2 < 7 <;> simp [h, h', h''] <;> omega)
  simp only [show (2 : Nat) ^ (8 * 1) = 256 from rfl] at e4
  simp only [show (2 : Nat) ^ (8 * 2) = 65536 from rfl] at e5
  simp only [show (2 : Nat) ^ (8 * 4) = 4294967296 from rfl] at e6
  simp only [show (7 + 1 : Nat) = 8 from rfl] at e4
  simp only [show (6 + 2 : Nat) = 8 from rfl] at e5
  simp only [show (4 + 4 : Nat) = 8 from rfl] at e6
  simp only [e4, e5, e6]
  have b3 : V 4 (g2 f) 16 / 16 + V 4 (g2 f) 16 < 18446744073709551616 := by
    have h0 : g2 f 0 < 2 ^ 4 := Nat.lt_of_le_of_lt (g2_le f 0) (by decide)
    have hs := V_shift_add (k := 4) (g := g2 f) 15 h0
    simp only [show (2 : Nat) ^ 4 = 16 from rfl, show (15 + 1 : Nat) = 16 from rfl] at hs
    rw [hs]
    exact V_lt (k := 4) (n := 16) fun i _ => by
      have := g2_le f i; have := g2_le f (i + 1)
      by_cases h : i < 15 <;> simp [h] <;> omega
  refine ⟨num_lt f 64, V_lt (k := 2) (n := 32) fun i _ => Nat.lt_of_le_of_lt (g1_le f i) (by decide), V_lt (k := 4) (n := 16) fun i _ => Nat.lt_of_le_of_lt (g2_le f i) (by decide), b3, V_lt (k := 8) (n := 8) fun i _ => Nat.lt_of_le_of_lt (g3_le f i) (by decide), V_lt (k := 8) (n := 8) fun i _ => ?_, V_lt (k := 8) (n := 8) fun i _ => ?_, V_lt (k := 8) (n := 8) fun i _ => ?_⟩
  · have := hg i; have := hg (i + 1); by_cases h : i < 7 <;> simp [h] <;> omega
  · have := hg i; have := hg (i + 1); have := hg (i + 2); have := hg (i + 2 + 1)
    by_cases h : i < 7 <;> by_cases h' : i < 6 <;> by_cases h'' : i + 2 < 7 <;> simp [h, h', h''] <;> omega
  · have := hg i; have := hg (i + 1); have := hg (i + 2); have := hg (i + 2 + 1); have := hg (i + 4); have := hg (i + 4 + 1); have := hg (i + 4 + 2); have := hg (i + 4 + 2 + 1)
    have s1 : (if i < 7 then g3 f (i + 1) else 0) ≤ 8 := by split <;> omega
    have s2 : (if i + 2 < 7 then g3 f (i + 2 + 1) else 0) ≤ 8 := by split <;> omega
    have s3 : (if i < 6 then g3 f (i + 2) + (if i + 2 < 7 then g3 f (i + 2 + 1) else 0) else 0) ≤ 16 := by split <;> omega
    have s4 : (if i + 4 < 7 then g3 f (i + 4 + 1) else 0) ≤ 8 := by split <;> omega
    have s5 : (if i + 4 + 2 < 7 then g3 f (i + 4 + 2 + 1) else 0) ≤ 8 := by split <;> omega
    have s6 : (if i + 4 < 6 then g3 f (i + 4 + 2) + (if i + 4 + 2 < 7 then g3 f (i + 4 + 2 + 1) else 0) else 0) ≤ 16 := by split <;> omega
    have s7 : (if i < 4 then (g3 f (i + 4) + if i + 4 < 7 then g3 f (i + 4 + 1) else 0) + (if i + 4 < 6 then g3 f (i + 4 + 2) + (if i + 4 + 2 < 7 then g3 f (i + 4 + 2 + 1) else 0) else 0) else 0) ≤ 32 := by split <;> omega
    omega
theorem half_lt {x : Nat} (s : Nat) (h : x < 18446744073709551616) : x / 2 ^ s < 18446744073709551616 := Nat.lt_of_le_of_lt (Nat.div_le_self _ _) h
/-! ### The least bit -/
def tab64 : List Nat := [0, 1, 56, 2, 57, 49, 28, 3, 61, 58, 42, 50, 38, 29, 17, 4, 62, 47, 59, 36, 45, 43, 51, 22, 53, 39, 33, 30, 24, 18, 12, 5, 63, 55, 48, 27, 60, 41, 37, 16, 46, 35, 44, 21, 52, 32, 23, 11, 54, 26, 40, 15, 34, 20, 31, 10, 25, 14, 19, 9, 13, 8, 7, 6]
def tabIdx (t : Nat) : Nat := 2 ^ t * 285870213051353865 % 18446744073709551616 / 2 ^ 58
theorem tab_ok : ∀ t, t < 64 → tabIdx t < 64 ∧ tab64.getD (tabIdx t) 0 = t := by decide +kernel
theorem and_neg {x t : Nat} (hx : x < 18446744073709551616) (ht : x.testBit t = true) (hl : ∀ j, j < t → x.testBit j = false) : x &&& (18446744073709551616 - x) = 2 ^ t := by
  have ht64 : t < 64 := by
    rcases Nat.lt_or_ge t 64 with h | h
    · exact h
    · have : x.testBit t = false := Nat.testBit_lt_two_pow (Nat.lt_of_lt_of_le hx (Nat.pow_le_pow_right (n := 2) (i := 64) (by decide) h))
      rw [this] at ht; cases ht
  have hmod : x % 2 ^ (t + 1) = 2 ^ t := Nat.eq_of_testBit_eq fun j => by
    rw [Nat.testBit_mod_two_pow, Nat.testBit_two_pow]
    by_cases h1 : j < t
    · simp [hl j h1]; omega
    · by_cases h2 : j = t
      · subst h2; simp [ht]
      · simp [show ¬ j < t + 1 by omega]; omega
  have hq := Nat.mod_add_div x (2 ^ (t + 1))
  rw [hmod] at hq
  generalize hqq : x / 2 ^ (t + 1) = q at hq
  obtain ⟨m, hm⟩ : ∃ m, 64 = t + 1 + m := ⟨64 - (t + 1), by omega⟩
  have h64 : (18446744073709551616 : Nat) = 2 ^ (t + 1) * 2 ^ m := by rw [← Nat.pow_add, ← hm]
  have hqm : q < 2 ^ m := by
    rw [← hqq]
    exact Nat.div_lt_of_lt_mul (by rw [← h64]; exact hx)
  have e : 18446744073709551616 - x = 2 ^ t + 2 ^ (t + 1) * (2 ^ m - (q + 1)) := by
    have e2 : 2 ^ (t + 1) = 2 ^ t + 2 ^ t := by rw [Nat.pow_succ]; omega
    obtain ⟨r, hr⟩ : ∃ r, 2 ^ m = q + 1 + r := ⟨2 ^ m - (q + 1), by omega⟩
    rw [h64, hr, ← hq, show q + 1 + r - (q + 1) = r by omega]
    rw [Nat.mul_add, Nat.mul_add]
    omega
  have hlt : 2 ^ t < 2 ^ (t + 1) := Nat.pow_lt_pow_right (by decide) (by omega)
  conv => lhs; lhs; rw [← hq]
  rw [e, and_split (t + 1) (2 ^ t) q (2 ^ t) (2 ^ m - (q + 1)) hlt hlt, Nat.and_self]
  have : q &&& (2 ^ m - (q + 1)) = 0 := Nat.eq_of_testBit_eq fun j => by
    rw [Nat.testBit_and, Nat.testBit_two_pow_sub_succ hqm]
    cases q.testBit j <;> simp
  rw [this]; simp
theorem not_word (S : Nat → Bool) (k j : Nat) (hj : j < 64) : (18446744073709551615 ^^^ word S k).testBit j = !S (64 * k + j) := by
  rw [Nat.testBit_xor, testBit_all, testBit_word S k j hj]; simp [hj]
theorem word_full {S : Nat → Bool} {k : Nat} (h : ∀ j, j < 64 → S (64 * k + j) = true) : word S k = 18446744073709551615 := Nat.eq_of_testBit_eq fun j => by
  rw [testBit_all]
  unfold word
  rw [testBit_num]
  by_cases hj : j < 64
  · simp [hj, h j hj]
  · simp [hj]
theorem word_notfull {S : Nat → Bool} {k j : Nat} (hj : j < 64) (h : S (64 * k + j) = false) : word S k ≠ 18446744073709551615 := fun e => by
  have := testBit_word S k j hj
  rw [e, h, testBit_all] at this
  simp [hj] at this
theorem least_free (S : Nat → Bool) : ∀ n, (∀ j, j < n → S j = true) ∨ ∃ a, a < n ∧ S a = false ∧ ∀ j, j < a → S j = true
  | 0 => .inl fun _ h => absurd h (Nat.not_lt_zero _)
  | n + 1 => by
    rcases least_free S n with h | ⟨a, h1, h2, h3⟩
    · cases hn : S n
      · exact .inr ⟨n, Nat.lt_succ_self _, hn, h⟩
      · exact .inl fun j hj => by
          rcases Nat.lt_succ_iff_lt_or_eq.1 hj with h' | rfl
          · exact h j h'
          · exact hn
    · exact .inr ⟨a, by omega, h2, h3⟩
/-! ### Bytes -/
def trunc (S : Nat → Bool) (k : Nat) : Nat → Bool := fun i => decide (i < k) && S i
theorem byte_or (S : Nat → Bool) (k : Nat) (h : S k = true) : byte (trunc S k) (k / 8) ||| 2 ^ (k % 8) = byte (trunc S (k + 1)) (k / 8) := Nat.eq_of_testBit_eq fun i => by
  rw [Nat.testBit_or, Nat.testBit_two_pow]
  unfold byte
  rw [testBit_num, testBit_num]
  unfold trunc
  by_cases hi : i < 8
  · by_cases e : 8 * (k / 8) + i = k
    · have : k % 8 = i := by omega
      simp [e, h, this, hi]
    · have h1 : ¬ k % 8 = i := by omega
      by_cases h2 : 8 * (k / 8) + i < k
      · simp [h1, h2, Nat.lt_succ_of_lt h2]
      · simp only [h1, h2, decide_false, Bool.false_and, Bool.and_false, Bool.or_false, show ¬ 8 * (k / 8) + i < k + 1 by omega]
  · simp [hi]; omega
theorem byte_same (S : Nat → Bool) (k j : Nat) (h : j ≠ k / 8 ∨ S k = false) : byte (trunc S (k + 1)) j = byte (trunc S k) j := num_congr fun i hi => by
  unfold trunc
  by_cases e : 8 * j + i = k
  · rcases h with h | h
    · omega
    · rw [e, h]; simp
  · by_cases h2 : 8 * j + i < k
    · simp [h2, Nat.lt_succ_of_lt h2]
    · simp only [h2, decide_false, Bool.false_and, show ¬ 8 * j + i < k + 1 by omega]
theorem testBit_byte (S : Nat → Bool) (k j : Nat) (hj : j < 8) : (byte S k).testBit j = S (8 * k + j) := by
  unfold byte; rw [testBit_num]; simp [hj]
end Go.Eng.Bm
