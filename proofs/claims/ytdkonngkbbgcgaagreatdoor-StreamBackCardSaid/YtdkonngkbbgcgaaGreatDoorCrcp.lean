/- The checksum of bytes: by half bytes, and bit by bit; both give the same, and each byte counts. -/
import Derived.Test.YtdkonngkbbgcgaaGreatDoorWtt
namespace Go.Proofs.YtdkonngkbbgcgaaGreatDoor
set_option maxRecDepth 100000
/-- One bit of a checksum. -/
def bit1 (m : BitVec 32) : BitVec 32 := (m >>> 1) ^^^ (bif m.getLsbD 0 then 0x82f63b78#32 else 0#32)
theorem bit1_xor (a b : BitVec 32) : bit1 (a ^^^ b) = bit1 a ^^^ bit1 b := by
  unfold bit1
  rw [BitVec.ushiftRight_xor_distrib, BitVec.getLsbD_xor]
  cases a.getLsbD 0 <;> cases b.getLsbD 0 <;> simp only [Bool.xor_false, Bool.xor_true, Bool.not_true, Bool.not_false, cond_true, cond_false, BitVec.xor_zero]
  · rw [BitVec.xor_assoc]
  · rw [BitVec.xor_assoc, BitVec.xor_comm (b >>> 1), BitVec.xor_assoc]
  · rw [BitVec.xor_assoc, BitVec.xor_comm (0x82f63b78#32), BitVec.xor_assoc (b >>> 1), BitVec.xor_self, BitVec.xor_zero]
theorem bit1_even (a : BitVec 32) (h : a.getLsbD 0 = false) : bit1 a = a >>> 1 := by
  unfold bit1
  rw [h, cond_false, BitVec.xor_zero]
theorem bit1_inj {a b : BitVec 32} (h : bit1 a = bit1 b) : a = b := by
  have h31 : ∀ m : BitVec 32, (bit1 m).getLsbD 31 = m.getLsbD 0 := fun m => by
    unfold bit1
    rw [BitVec.getLsbD_xor, BitVec.getLsbD_ushiftRight]
    have : m.getLsbD (1 + 31) = false := BitVec.getLsbD_of_ge _ _ (by omega)
    rw [this, Bool.false_xor]
    cases m.getLsbD 0 <;> rfl
  have h0 : a.getLsbD 0 = b.getLsbD 0 := by rw [← h31, ← h31, h]
  have h1 : a >>> 1 = b >>> 1 := by
    unfold bit1 at h
    rw [h0] at h
    exact BitVec.xor_left_inj _ |>.1 h
  apply BitVec.eq_of_getLsbD_eq
  intro i hi
  cases i with
  | zero => exact h0
  | succ i =>
    have := congrArg (fun m => m.getLsbD i) h1
    simp only [BitVec.getLsbD_ushiftRight] at this
    rw [Nat.add_comm] at this
    exact this
def bits4 (m : BitVec 32) : BitVec 32 := bit1 (bit1 (bit1 (bit1 m)))
def halves : List (BitVec 32) := [0x00000000#32, 0x105ec76f#32, 0x20bd8ede#32, 0x30e349b1#32, 0x417b1dbc#32, 0x5125dad3#32, 0x61c69362#32, 0x7198540d#32, 0x82f63b78#32, 0x92a8fc17#32, 0xa24bb5a6#32, 0xb21572c9#32, 0xc38d26c4#32, 0xd3d3e1ab#32, 0xe330a81a#32, 0xf36e6f75#32]
/-- Half a byte of a checksum. -/
def half (m : BitVec 32) : BitVec 32 := halves[(m &&& 15#32).toNat]?.getD 0 ^^^ m >>> 4
theorem half_low : ∀ i : Fin 16, halves[i.val]?.getD 0 = bits4 (BitVec.ofNat 32 i.val) := by decide +kernel
theorem half_high (m : BitVec 32) : bits4 (m >>> 4 <<< 4) = m >>> 4 := by
  have e : ∀ (k i : Nat), ((m >>> 4 <<< 4) >>> k).getLsbD i = (decide (4 ≤ k + i) && decide (k + i < 32) && m.getLsbD (k + i)) := fun k i => by
    rw [BitVec.getLsbD_ushiftRight, BitVec.getLsbD_shiftLeft, BitVec.getLsbD_ushiftRight]
    by_cases h : k + i < 4
    · simp [h, show ¬ 4 ≤ k + i by omega]
    · rw [show 4 + (k + i - 4) = k + i by omega]
      simp [h, show 4 ≤ k + i by omega]
  have e0 : (m >>> 4 <<< 4).getLsbD 0 = false := by have := e 0 0; simp at this; simp [this]
  have s1 : bit1 (m >>> 4 <<< 4) = m >>> 4 <<< 4 >>> 1 := bit1_even _ e0
  have s2 : bit1 (m >>> 4 <<< 4 >>> 1) = m >>> 4 <<< 4 >>> (1 + 1) := by rw [bit1_even _ (by rw [e]; rfl), ← BitVec.shiftRight_add]
  have s3 : bit1 (m >>> 4 <<< 4 >>> (1 + 1)) = m >>> 4 <<< 4 >>> (1 + 1 + 1) := by rw [bit1_even _ (by rw [e]; rfl), ← BitVec.shiftRight_add]
  have s4 : bit1 (m >>> 4 <<< 4 >>> (1 + 1 + 1)) = m >>> 4 <<< 4 >>> (1 + 1 + 1 + 1) := by rw [bit1_even _ (by rw [e]; rfl), ← BitVec.shiftRight_add]
  unfold bits4
  rw [s1, s2, s3, s4]
  apply BitVec.eq_of_getLsbD_eq
  intro i hi
  rw [e, BitVec.getLsbD_ushiftRight]
  by_cases h : 1 + 1 + 1 + 1 + i < 32
  · rw [decide_eq_true (by omega), decide_eq_true h]; rfl
  · rw [decide_eq_false h, BitVec.getLsbD_of_ge m (4 + i) (by omega)]
    simp
theorem half_is (m : BitVec 32) : half m = bits4 m := by
  have hs : m = (m &&& 15#32) ^^^ (m >>> 4 <<< 4) := by
    apply BitVec.eq_of_getLsbD_eq
    intro i hi
    rw [BitVec.getLsbD_xor, BitVec.getLsbD_and, BitVec.getLsbD_shiftLeft, BitVec.getLsbD_ushiftRight]
    by_cases h : i < 4
    · have : ∀ j : Fin 4, (15#32).getLsbD j.val = true := by decide
      rw [this ⟨i, h⟩]
      simp [h]
    · have : (15#32).getLsbD i = false := by
        have : ∀ j : Fin 32, 4 ≤ j.val → (15#32).getLsbD j.val = false := by decide
        exact this ⟨i, hi⟩ (by simpa using h)
      rw [this, show 4 + (i - 4) = i by omega]
      simp [h, hi]
  have hb : bits4 m = bits4 (m &&& 15#32) ^^^ bits4 (m >>> 4 <<< 4) := by
    conv => lhs; rw [hs]
    simp only [bits4, bit1_xor]
  have hl : (m &&& 15#32).toNat < 16 := by
    rw [BitVec.toNat_and]
    exact Nat.lt_succ_of_le Nat.and_le_right
  have := half_low ⟨_, hl⟩
  rw [hb, half_high, half]
  simp only at this
  rw [this, BitVec.ofNat_toNat, BitVec.setWidth_eq]
/-- A byte of a checksum. -/
def byte1 (n : BitVec 32) (c : UInt8) : BitVec 32 := half (half (n ^^^ BitVec.ofNat 32 c.toNat))
theorem byte1_inj {n m : BitVec 32} {c d : UInt8} (h : byte1 n c = byte1 m d) : n ^^^ BitVec.ofNat 32 c.toNat = m ^^^ BitVec.ofNat 32 d.toNat := by
  unfold byte1 at h
  simp only [half_is, bits4] at h
  exact bit1_inj (bit1_inj (bit1_inj (bit1_inj (bit1_inj (bit1_inj (bit1_inj (bit1_inj h)))))))
/-- The checksum of bytes. -/
def crcF (s : List UInt8) : BitVec 32 := ~~~ (s.foldl byte1 (BitVec.allOnes 32))
theorem fold_inj : ∀ (s : List UInt8) {n m : BitVec 32}, s.foldl byte1 n = s.foldl byte1 m → n = m
  | [], _, _, h => h
  | c :: s, n, m, h => by
    have := byte1_inj (fold_inj s h)
    exact BitVec.xor_left_inj _ |>.1 this
/-- One byte that is another one is another checksum. -/
theorem crc_one (a b : List UInt8) {c d : UInt8} (h : crcF (a ++ c :: b) = crcF (a ++ d :: b)) : c = d := by
  unfold crcF at h
  have h2 : (a ++ c :: b).foldl byte1 (BitVec.allOnes 32) = (a ++ d :: b).foldl byte1 (BitVec.allOnes 32) := by
    have := congrArg (fun x => ~~~ x) h
    simpa only [BitVec.not_not] using this
  rw [List.foldl_append, List.foldl_append, List.foldl_cons, List.foldl_cons] at h2
  have h3 := byte1_inj (fold_inj b h2)
  have h4 := BitVec.xor_right_inj _ |>.1 h3
  have h5 := congrArg BitVec.toNat h4
  rw [BitVec.toNat_ofNat, BitVec.toNat_ofNat, Nat.mod_eq_of_lt (by have := c.toNat_lt; omega), Nat.mod_eq_of_lt (by have := d.toNat_lt; omega)] at h5
  exact UInt8.toNat_inj.1 h5
/-- The document's step of a bit: of a number and a byte. -/
def refBit (x : Nat × Nat) : Nat × Nat := (if (x.1 % 2 + x.2 % 2) % 2 = 1 then (x.1 / 2) ^^^ 0x82f63b78 else x.1 / 2, x.2 / 2)
theorem refBit_is (n : BitVec 32) (c : Nat) (hc : c < 4294967296) : ∃ m : BitVec 32, refBit (n.toNat, c) = (m.toNat, c / 2) ∧ m ^^^ BitVec.ofNat 32 (c / 2) = bit1 (n ^^^ BitVec.ofNat 32 c) := by
  have hb : (n ^^^ BitVec.ofNat 32 c).getLsbD 0 = decide ((n.toNat % 2 + c % 2) % 2 = 1) := by
    rw [BitVec.getLsbD_xor]
    have e1 : n.getLsbD 0 = decide (n.toNat % 2 = 1) := by
      show Nat.testBit n.toNat 0 = _
      rw [Nat.testBit_zero]
    have e2 : (BitVec.ofNat 32 c).getLsbD 0 = decide (c % 2 = 1) := by
      show Nat.testBit (BitVec.ofNat 32 c).toNat 0 = _
      rw [BitVec.toNat_ofNat, Nat.mod_eq_of_lt hc, Nat.testBit_zero]
    rw [e1, e2]
    rcases Nat.mod_two_eq_zero_or_one n.toNat with h | h <;> rcases Nat.mod_two_eq_zero_or_one c with h' | h' <;> rw [h, h'] <;> rfl
  have hsh : (n ^^^ BitVec.ofNat 32 c) >>> 1 = n >>> 1 ^^^ BitVec.ofNat 32 (c / 2) := by
    rw [BitVec.ushiftRight_xor_distrib]
    congr 1
    apply BitVec.eq_of_toNat_eq
    rw [BitVec.toNat_ushiftRight, BitVec.toNat_ofNat, BitVec.toNat_ofNat, Nat.mod_eq_of_lt hc, Nat.mod_eq_of_lt (by omega), Nat.shiftRight_eq_div_pow]
  unfold bit1
  rw [hb, hsh]
  by_cases h : (n.toNat % 2 + c % 2) % 2 = 1
  · refine ⟨n >>> 1 ^^^ 0x82f63b78#32, ?_, ?_⟩
    · unfold refBit
      rw [if_pos h, BitVec.toNat_xor, BitVec.toNat_ushiftRight, Nat.shiftRight_eq_div_pow]
      rfl
    · rw [decide_eq_true h, cond_true, BitVec.xor_assoc, BitVec.xor_comm (0x82f63b78#32), BitVec.xor_assoc]
  · refine ⟨n >>> 1, ?_, ?_⟩
    · unfold refBit
      rw [if_neg h, BitVec.toNat_ushiftRight, Nat.shiftRight_eq_div_pow]
    · rw [decide_eq_false h, cond_false, BitVec.xor_zero]
/-- The document's step of a byte. -/
def refByte (n : Nat) (c : Nat) : Nat := (refBit (refBit (refBit (refBit (refBit (refBit (refBit (refBit (n, c))))))))).1
theorem refByte_is (n : BitVec 32) (c : UInt8) : refByte n.toNat c.toNat = (byte1 n c).toNat := by
  have hc := c.toNat_lt
  obtain ⟨m1, a1, b1⟩ := refBit_is n c.toNat (by omega)
  obtain ⟨m2, a2, b2⟩ := refBit_is m1 (c.toNat / 2) (by omega)
  obtain ⟨m3, a3, b3⟩ := refBit_is m2 (c.toNat / 2 / 2) (by omega)
  obtain ⟨m4, a4, b4⟩ := refBit_is m3 (c.toNat / 2 / 2 / 2) (by omega)
  obtain ⟨m5, a5, b5⟩ := refBit_is m4 (c.toNat / 2 / 2 / 2 / 2) (by omega)
  obtain ⟨m6, a6, b6⟩ := refBit_is m5 (c.toNat / 2 / 2 / 2 / 2 / 2) (by omega)
  obtain ⟨m7, a7, b7⟩ := refBit_is m6 (c.toNat / 2 / 2 / 2 / 2 / 2 / 2) (by omega)
  obtain ⟨m8, a8, b8⟩ := refBit_is m7 (c.toNat / 2 / 2 / 2 / 2 / 2 / 2 / 2) (by omega)
  have hz : c.toNat / 2 / 2 / 2 / 2 / 2 / 2 / 2 / 2 = 0 := by omega
  unfold refByte byte1
  rw [a1, a2, a3, a4, a5, a6, a7, a8, half_is, half_is]
  rw [hz] at b8
  show m8.toNat = (bits4 (bits4 (n ^^^ BitVec.ofNat 32 c.toNat))).toNat
  unfold bits4
  rw [← b1, ← b2, ← b3, ← b4, ← b5, ← b6, ← b7, ← b8]
  simp
theorem refFold_is : ∀ (s : List UInt8) (n : BitVec 32), s.foldl (fun m c => refByte m c.toNat) n.toNat = (s.foldl byte1 n).toNat
  | [], _ => rfl
  | c :: s, n => by
    rw [List.foldl_cons, List.foldl_cons, refByte_is]
    exact refFold_is s _
/-- The document's checksum is this one. -/
theorem refCrc_is (s : List UInt8) : 4294967295 - s.foldl (fun m c => refByte m c.toNat) 4294967295 = (crcF s).toNat := by
  have := refFold_is s (BitVec.allOnes 32)
  rw [show (BitVec.allOnes 32).toNat = 4294967295 from rfl] at this
  rw [this, crcF, BitVec.toNat_not]
end Go.Proofs.YtdkonngkbbgcgaaGreatDoor
