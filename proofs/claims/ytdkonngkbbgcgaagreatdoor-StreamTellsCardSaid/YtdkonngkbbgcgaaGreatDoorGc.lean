/- Words of 32 bits, as bit vectors: what each operation gives. -/
/- The checksum of bytes: by half bytes, and bit by bit; both give the same, and each byte counts. -/
/- The document's constants by roots: what its loops compute, and that these are the program's constants. -/
/- The hash of bytes: what it is, over words of 32 bits. -/
/- Words of bytes as the program and the document put them together; bytes of numbers. -/
/- Openers and streams: what is read of bytes, what is put, and that each answers the other. -/
/- Whether a stream may be: as the program asks it, and as the document says it. -/
/- Chunks: what is parsed of bytes, what is put, and when both are one. -/
/- Maps that are keyed by hashes: their rows in memory, and what is looked up. -/
/- Maps keyed by hashes: making one, looking up, putting in, how many there are. -/
/- Chunks and streams: what may be, what is taken of bytes, and the law of the way back. -/
/- package stream: a call that ended, without an error that was thrown. -/
/- Short steps: an operation that tells a value, a test, a guard, each with its own search. Own work; no condition. -/
import Derived.Test.YtdkonngkbbgcgaaGreatDoorGb
import Derived.DeepKeys3
import Derived.Test.YtdkonngkbbgcgaaGreatDoorGa
import Derived.Test.YtdkonngkbbgcgaaGreatDoorChecked
import Derived.Test.YtdkonngkbbgcgaaGreatDoorDfr
namespace Go.Eng
open Go.RowKit
set_option maxRecDepth 100000
section
variable {P : Program} {l : Slots} {H : World → Prop} {x y : Operand} {xt yt ty : TypeId}
/-- The value of a word. -/
abbrev w32 (a : BitVec 32) : Value := .int .u32 (a.toNat : Int)
theorem ofInt_w (a : BitVec 32) : BitVec.ofInt 32 (a.toNat : Int) = a := by rw [ofInt_nat, BitVec.ofNat_toNat, BitVec.setWidth_eq]
theorem wrap_w (n : Nat) : IntKind.u32.wrap (n : Int) = ((BitVec.ofNat 32 n).toNat : Int) := by rw [u32_wrap_nat, BitVec.toNat_ofNat]
theorem wrap_wi (a : BitVec 32) : IntKind.u32.wrap (a.toNat : Int) = (a.toNat : Int) := by rw [wrap_w, BitVec.ofNat_toNat, BitVec.setWidth_eq]
theorem v_xorW {a b : BitVec 32} (hx : evO l x = some (w32 a)) (hy : evO l y = some (w32 b)) : OV P (.binOp .xor xt x y yt) ty l H (w32 (a ^^^ b)) :=
  v_as (v_bin hx hy fun _ => rfl) (by
    show Value.int .u32 (IntKind.u32.wrap ((BitVec.ofInt 32 a.toNat ^^^ BitVec.ofInt 32 b.toNat).toNat)) = _
    rw [ofInt_w, ofInt_w, wrap_wi])
theorem v_andW {a b : BitVec 32} (hx : evO l x = some (w32 a)) (hy : evO l y = some (w32 b)) : OV P (.binOp .and xt x y yt) ty l H (w32 (a &&& b)) :=
  v_as (v_bin hx hy fun _ => rfl) (by
    show Value.int .u32 (IntKind.u32.wrap ((BitVec.ofInt 32 a.toNat &&& BitVec.ofInt 32 b.toNat).toNat)) = _
    rw [ofInt_w, ofInt_w, wrap_wi])
theorem v_orW {a b : BitVec 32} (hx : evO l x = some (w32 a)) (hy : evO l y = some (w32 b)) : OV P (.binOp .or xt x y yt) ty l H (w32 (a ||| b)) :=
  v_as (v_bin hx hy fun _ => rfl) (by
    show Value.int .u32 (IntKind.u32.wrap ((BitVec.ofInt 32 a.toNat ||| BitVec.ofInt 32 b.toNat).toNat)) = _
    rw [ofInt_w, ofInt_w, wrap_wi])
theorem wrap_wadd (a b : BitVec 32) : IntKind.u32.wrap ((a.toNat : Int) + (b.toNat : Int)) = ((a + b).toNat : Int) := by
  rw [← Int.natCast_add, u32_wrap_nat, BitVec.toNat_add]
theorem v_addW32 {a b : BitVec 32} (hx : evO l x = some (w32 a)) (hy : evO l y = some (w32 b)) : OV P (.binOp .add xt x y yt) ty l H (w32 (a + b)) :=
  v_as (v_bin hx hy fun _ => rfl) (by
    show Value.int .u32 (IntKind.u32.wrap ((a.toNat : Int) + (b.toNat : Int))) = _
    rw [wrap_wadd])
theorem v_notW {t : TypeId} {a : BitVec 32} (hx : evO l x = some (w32 a)) : OV P (.unOp .xor t x) ty l H (w32 (~~~a)) := ov fun _ _ _ w _ => by
  have e : (Op.unary .xor (.int .u32 a.toNat) : Sem Value).run P w = .ok (w32 (~~~a)) w := by
    show Result.ok (Value.int .u32 (IntKind.u32.wrap ((BitVec.ofInt 32 ((4294967295 : Nat) : Int) ^^^ BitVec.ofInt 32 (a.toNat : Int)).toNat))) w = _
    rw [ofInt_w, wrap_wi, show BitVec.ofInt 32 ((4294967295 : Nat) : Int) = BitVec.allOnes 32 from rfl, BitVec.allOnes_xor]
  simp only [execOp, ev_of hx, Sem.run_bind, e]; rfl
theorem shift_runU {op : BinOp} {k q : IntKind} (hop : op = .shl ∨ op = .shr) (n : Int) (s : Nat) (w : World) :
    (do eqGuard op xt x y (.int k n) (.int q s); binOp op xt (.int k n) (.int q s) : Sem Value).run P w = .ok (match op with | .shl => .int k (k.wrap (n * 2 ^ (min s k.bits))) | _ => .int k (n.fdiv (2 ^ (min s k.bits)))) w := by
  have h0 : ¬ ((s : Int) < 0) := by omega
  rcases hop with rfl | rfl
  · show ((binOp .shl xt (.int k n) (.int q s)).run P w) = _
    simp only [binOp, Op.shift, h0, if_false, Int.toNat_natCast]; rfl
  · show ((binOp .shr xt (.int k n) (.int q s)).run P w) = _
    simp only [binOp, Op.shift, h0, if_false, Int.toNat_natCast]; rfl
theorem v_shrW {a : BitVec 32} {q : IntKind} {s : Nat} (hx : evO l x = some (w32 a)) (hy : evO l y = some (.int q s)) (hs : s ≤ 32) : OV P (.binOp .shr xt x y yt) ty l H (w32 (a >>> s)) :=
  v_as (v_bin hx hy (shift_runU (.inr rfl) _ _)) (by
    have e : min s IntKind.u32.bits = s := by show min s 32 = s; omega
    have e2 : (2 : Int) ^ s = ((2 ^ s : Nat) : Int) := by simp
    have e3 : (a.toNat : Int).fdiv ((2 ^ s : Nat) : Int) = ((a >>> s).toNat : Int) := by
      rw [Int.fdiv_eq_ediv_of_nonneg _ (Int.natCast_nonneg _), BitVec.toNat_ushiftRight, Nat.shiftRight_eq_div_pow]; rfl
    simp only [e, e2, e3])
theorem v_shlW {a : BitVec 32} {q : IntKind} {s : Nat} (hx : evO l x = some (w32 a)) (hy : evO l y = some (.int q s)) (hs : s ≤ 32) : OV P (.binOp .shl xt x y yt) ty l H (w32 (a <<< s)) :=
  v_as (v_bin hx hy (shift_runU (.inl rfl) _ _)) (by
    have e : min s IntKind.u32.bits = s := by show min s 32 = s; omega
    have e2 : ((a.toNat : Int) * 2 ^ s) = ((a.toNat * 2 ^ s : Nat) : Int) := by simp
    have e3 : a.toNat * 2 ^ s % 4294967296 = (a <<< s).toNat := by rw [BitVec.toNat_shiftLeft, Nat.shiftLeft_eq]
    simp only [e, e2, u32_wrap_nat, e3])
theorem lit32 {b : Nat} (h : b < 4294967296) : (b : Int) = ((BitVec.ofNat 32 b).toNat : Int) := by rw [BitVec.toNat_ofNat, Nat.mod_eq_of_lt h]
theorem v_shrWC {a : BitVec 32} {q : IntKind} {s : Nat} (hx : evO l x = some (w32 a)) (hy : evO l y = some (.int q (@OfNat.ofNat Int s _))) (hs : @OfNat.ofNat Nat s _ ≤ 32) : OV P (.binOp .shr xt x y yt) ty l H (w32 (a >>> (@OfNat.ofNat Nat s _))) := v_shrW hx hy hs
theorem v_shlWC {a : BitVec 32} {q : IntKind} {s : Nat} (hx : evO l x = some (w32 a)) (hy : evO l y = some (.int q (@OfNat.ofNat Int s _))) (hs : @OfNat.ofNat Nat s _ ≤ 32) : OV P (.binOp .shl xt x y yt) ty l H (w32 (a <<< (@OfNat.ofNat Nat s _))) := v_shlW hx hy hs
theorem v_andWC {a : BitVec 32} {b : Nat} (hx : evO l x = some (w32 a)) (hy : evO l y = some (.int .u32 (@OfNat.ofNat Int b _))) (hb : @OfNat.ofNat Nat b _ < 4294967296) : OV P (.binOp .and xt x y yt) ty l H (w32 (a &&& BitVec.ofNat 32 (@OfNat.ofNat Nat b _))) := v_andW hx (hy.trans (congrArg (fun i => some (Value.int .u32 i)) (lit32 hb)))
theorem v_xorWC {a : BitVec 32} {b : Nat} (hx : evO l x = some (w32 a)) (hy : evO l y = some (.int .u32 (@OfNat.ofNat Int b _))) (hb : @OfNat.ofNat Nat b _ < 4294967296) : OV P (.binOp .xor xt x y yt) ty l H (w32 (a ^^^ BitVec.ofNat 32 (@OfNat.ofNat Nat b _))) := v_xorW hx (hy.trans (congrArg (fun i => some (Value.int .u32 i)) (lit32 hb)))
theorem v_addWC {a : BitVec 32} {b : Nat} (hx : evO l x = some (w32 a)) (hy : evO l y = some (.int .u32 (@OfNat.ofNat Int b _))) (hb : @OfNat.ofNat Nat b _ < 4294967296) : OV P (.binOp .add xt x y yt) ty l H (w32 (a + BitVec.ofNat 32 (@OfNat.ofNat Nat b _))) := v_addW32 hx (hy.trans (congrArg (fun i => some (Value.int .u32 i)) (lit32 hb)))
end
end Go.Eng

namespace Go.Proofs.YtdkonngkbbgcgaaGreatDoor
set_option maxRecDepth 100000
/-- One bit of a checksum. -/
def bit1 (m : BitVec 32) : BitVec 32 := (m >>> 1) ^^^ (bif m.getLsbD 0 then 0x82f63b78#32 else 0#32)
theorem bit1_xor (a b : BitVec 32) : bit1 (a ^^^ b) = bit1 a ^^^ bit1 b := by
  unfold bit1
  rw [BitVec.ushiftRight_xor_distrib, BitVec.getLsbD_xor]
  cases a.getLsbD 0 <;> cases b.getLsbD 0 <;> simp only [Bool.xor_false, Bool.xor_true, Bool.not_true, Bool.not_false, cond_true, cond_false, BitVec.xor_zero]
  · rw [BitVec.xor_assoc]
  · rw [BitVec.xor_assoc, BitVec.xor_comm (b >>> 1), BitVec.xor_assoc]
  · rw [BitVec.xor_assoc, BitVec.xor_comm (0x82f63b78#32), BitVec.xor_assoc (b >>> 1), BitVec.xor_self, BitVec.xor_zero]
theorem bit1_even (a : BitVec 32) (h : a.getLsbD 0 = false) : bit1 a = a >>> 1 := by
  unfold bit1
  rw [h, cond_false, BitVec.xor_zero]
theorem bit1_inj {a b : BitVec 32} (h : bit1 a = bit1 b) : a = b := by
  have h31 : ∀ m : BitVec 32, (bit1 m).getLsbD 31 = m.getLsbD 0 := fun m => by
    unfold bit1
    rw [BitVec.getLsbD_xor, BitVec.getLsbD_ushiftRight]
    have : m.getLsbD (1 + 31) = false := BitVec.getLsbD_of_ge _ _ (by omega)
    rw [this, Bool.false_xor]
    cases m.getLsbD 0 <;> rfl
  have h0 : a.getLsbD 0 = b.getLsbD 0 := by rw [← h31, ← h31, h]
  have h1 : a >>> 1 = b >>> 1 := by
    unfold bit1 at h
    rw [h0] at h
    exact BitVec.xor_left_inj _ |>.1 h
  apply BitVec.eq_of_getLsbD_eq
  intro i hi
  cases i with
  | zero => exact h0
  | succ i =>
    have := congrArg (fun m => m.getLsbD i) h1
    simp only [BitVec.getLsbD_ushiftRight] at this
    rw [Nat.add_comm] at this
    exact this
def bits4 (m : BitVec 32) : BitVec 32 := bit1 (bit1 (bit1 (bit1 m)))
def halves : List (BitVec 32) := [0x00000000#32, 0x105ec76f#32, 0x20bd8ede#32, 0x30e349b1#32, 0x417b1dbc#32, 0x5125dad3#32, 0x61c69362#32, 0x7198540d#32, 0x82f63b78#32, 0x92a8fc17#32, 0xa24bb5a6#32, 0xb21572c9#32, 0xc38d26c4#32, 0xd3d3e1ab#32, 0xe330a81a#32, 0xf36e6f75#32]
/-- Half a byte of a checksum. -/
def half (m : BitVec 32) : BitVec 32 := halves[(m &&& 15#32).toNat]?.getD 0 ^^^ m >>> 4
theorem half_low : ∀ i : Fin 16, halves[i.val]?.getD 0 = bits4 (BitVec.ofNat 32 i.val) := by decide +kernel
theorem half_high (m : BitVec 32) : bits4 (m >>> 4 <<< 4) = m >>> 4 := by
  have e : ∀ (k i : Nat), ((m >>> 4 <<< 4) >>> k).getLsbD i = (decide (4 ≤ k + i) && decide (k + i < 32) && m.getLsbD (k + i)) := fun k i => by
    rw [BitVec.getLsbD_ushiftRight, BitVec.getLsbD_shiftLeft, BitVec.getLsbD_ushiftRight]
    by_cases h : k + i < 4
    · simp [h, show ¬ 4 ≤ k + i by omega]
    · rw [show 4 + (k + i - 4) = k + i by omega]
      simp [h, show 4 ≤ k + i by omega]
  have e0 : (m >>> 4 <<< 4).getLsbD 0 = false := by have := e 0 0; simp at this; simp [this]
  have s1 : bit1 (m >>> 4 <<< 4) = m >>> 4 <<< 4 >>> 1 := bit1_even _ e0
  have s2 : bit1 (m >>> 4 <<< 4 >>> 1) = m >>> 4 <<< 4 >>> (1 + 1) := by rw [bit1_even _ (by rw [e]; rfl), ← BitVec.shiftRight_add]
  have s3 : bit1 (m >>> 4 <<< 4 >>> (1 + 1)) = m >>> 4 <<< 4 >>> (1 + 1 + 1) := by rw [bit1_even _ (by rw [e]; rfl), ← BitVec.shiftRight_add]
  have s4 : bit1 (m >>> 4 <<< 4 >>> (1 + 1 + 1)) = m >>> 4 <<< 4 >>> (1 + 1 + 1 + 1) := by rw [bit1_even _ (by rw [e]; rfl), ← BitVec.shiftRight_add]
  unfold bits4
  rw [s1, s2, s3, s4]
  apply BitVec.eq_of_getLsbD_eq
  intro i hi
  rw [e, BitVec.getLsbD_ushiftRight]
  by_cases h : 1 + 1 + 1 + 1 + i < 32
  · rw [decide_eq_true (by omega), decide_eq_true h]; rfl
  · rw [decide_eq_false h, BitVec.getLsbD_of_ge m (4 + i) (by omega)]
    simp
theorem half_is (m : BitVec 32) : half m = bits4 m := by
  have hs : m = (m &&& 15#32) ^^^ (m >>> 4 <<< 4) := by
    apply BitVec.eq_of_getLsbD_eq
    intro i hi
    rw [BitVec.getLsbD_xor, BitVec.getLsbD_and, BitVec.getLsbD_shiftLeft, BitVec.getLsbD_ushiftRight]
    by_cases h : i < 4
    · have : ∀ j : Fin 4, (15#32).getLsbD j.val = true := by decide
      rw [this ⟨i, h⟩]
      simp [h]
    · have : (15#32).getLsbD i = false := by
        have : ∀ j : Fin 32, 4 ≤ j.val → (15#32).getLsbD j.val = false := by decide
        exact this ⟨i, hi⟩ (by simpa using h)
      rw [this, show 4 + (i - 4) = i by omega]
      simp [h, hi]
  have hb : bits4 m = bits4 (m &&& 15#32) ^^^ bits4 (m >>> 4 <<< 4) := by
    conv => lhs; rw [hs]
    simp only [bits4, bit1_xor]
  have hl : (m &&& 15#32).toNat < 16 := by
    rw [BitVec.toNat_and]
    exact Nat.lt_succ_of_le Nat.and_le_right
  have := half_low ⟨_, hl⟩
  rw [hb, half_high, half]
  simp only at this
  rw [this, BitVec.ofNat_toNat, BitVec.setWidth_eq]
/-- A byte of a checksum. -/
def byte1 (n : BitVec 32) (c : UInt8) : BitVec 32 := half (half (n ^^^ BitVec.ofNat 32 c.toNat))
theorem byte1_inj {n m : BitVec 32} {c d : UInt8} (h : byte1 n c = byte1 m d) : n ^^^ BitVec.ofNat 32 c.toNat = m ^^^ BitVec.ofNat 32 d.toNat := by
  unfold byte1 at h
  simp only [half_is, bits4] at h
  exact bit1_inj (bit1_inj (bit1_inj (bit1_inj (bit1_inj (bit1_inj (bit1_inj (bit1_inj h)))))))
/-- The checksum of bytes. -/
def crcF (s : List UInt8) : BitVec 32 := ~~~ (s.foldl byte1 (BitVec.allOnes 32))
theorem fold_inj : ∀ (s : List UInt8) {n m : BitVec 32}, s.foldl byte1 n = s.foldl byte1 m → n = m
  | [], _, _, h => h
  | c :: s, n, m, h => by
    have := byte1_inj (fold_inj s h)
    exact BitVec.xor_left_inj _ |>.1 this
/-- One byte that is another one is another checksum. -/
theorem crc_one (a b : List UInt8) {c d : UInt8} (h : crcF (a ++ c :: b) = crcF (a ++ d :: b)) : c = d := by
  unfold crcF at h
  have h2 : (a ++ c :: b).foldl byte1 (BitVec.allOnes 32) = (a ++ d :: b).foldl byte1 (BitVec.allOnes 32) := by
    have := congrArg (fun x => ~~~ x) h
    simpa only [BitVec.not_not] using this
  rw [List.foldl_append, List.foldl_append, List.foldl_cons, List.foldl_cons] at h2
  have h3 := byte1_inj (fold_inj b h2)
  have h4 := BitVec.xor_right_inj _ |>.1 h3
  have h5 := congrArg BitVec.toNat h4
  rw [BitVec.toNat_ofNat, BitVec.toNat_ofNat, Nat.mod_eq_of_lt (by have := c.toNat_lt; omega), Nat.mod_eq_of_lt (by have := d.toNat_lt; omega)] at h5
  exact UInt8.toNat_inj.1 h5
/-- The document's step of a bit: of a number and a byte. -/
def refBit (x : Nat × Nat) : Nat × Nat := (if (x.1 % 2 + x.2 % 2) % 2 = 1 then (x.1 / 2) ^^^ 0x82f63b78 else x.1 / 2, x.2 / 2)
theorem refBit_is (n : BitVec 32) (c : Nat) (hc : c < 4294967296) : ∃ m : BitVec 32, refBit (n.toNat, c) = (m.toNat, c / 2) ∧ m ^^^ BitVec.ofNat 32 (c / 2) = bit1 (n ^^^ BitVec.ofNat 32 c) := by
  have hb : (n ^^^ BitVec.ofNat 32 c).getLsbD 0 = decide ((n.toNat % 2 + c % 2) % 2 = 1) := by
    rw [BitVec.getLsbD_xor]
    have e1 : n.getLsbD 0 = decide (n.toNat % 2 = 1) := by
      show Nat.testBit n.toNat 0 = _
      rw [Nat.testBit_zero]
    have e2 : (BitVec.ofNat 32 c).getLsbD 0 = decide (c % 2 = 1) := by
      show Nat.testBit (BitVec.ofNat 32 c).toNat 0 = _
      rw [BitVec.toNat_ofNat, Nat.mod_eq_of_lt hc, Nat.testBit_zero]
    rw [e1, e2]
    rcases Nat.mod_two_eq_zero_or_one n.toNat with h | h <;> rcases Nat.mod_two_eq_zero_or_one c with h' | h' <;> rw [h, h'] <;> rfl
  have hsh : (n ^^^ BitVec.ofNat 32 c) >>> 1 = n >>> 1 ^^^ BitVec.ofNat 32 (c / 2) := by
    rw [BitVec.ushiftRight_xor_distrib]
    congr 1
    apply BitVec.eq_of_toNat_eq
    rw [BitVec.toNat_ushiftRight, BitVec.toNat_ofNat, BitVec.toNat_ofNat, Nat.mod_eq_of_lt hc, Nat.mod_eq_of_lt (by omega), Nat.shiftRight_eq_div_pow]
  unfold bit1
  rw [hb, hsh]
  by_cases h : (n.toNat % 2 + c % 2) % 2 = 1
  · refine ⟨n >>> 1 ^^^ 0x82f63b78#32, ?_, ?_⟩
    · unfold refBit
      rw [if_pos h, BitVec.toNat_xor, BitVec.toNat_ushiftRight, Nat.shiftRight_eq_div_pow]
      rfl
    · rw [decide_eq_true h, cond_true, BitVec.xor_assoc, BitVec.xor_comm (0x82f63b78#32), BitVec.xor_assoc]
  · refine ⟨n >>> 1, ?_, ?_⟩
    · unfold refBit
      rw [if_neg h, BitVec.toNat_ushiftRight, Nat.shiftRight_eq_div_pow]
    · rw [decide_eq_false h, cond_false, BitVec.xor_zero]
/-- The document's step of a byte. -/
def refByte (n : Nat) (c : Nat) : Nat := (refBit (refBit (refBit (refBit (refBit (refBit (refBit (refBit (n, c))))))))).1
theorem refByte_is (n : BitVec 32) (c : UInt8) : refByte n.toNat c.toNat = (byte1 n c).toNat := by
  have hc := c.toNat_lt
  obtain ⟨m1, a1, b1⟩ := refBit_is n c.toNat (by omega)
  obtain ⟨m2, a2, b2⟩ := refBit_is m1 (c.toNat / 2) (by omega)
  obtain ⟨m3, a3, b3⟩ := refBit_is m2 (c.toNat / 2 / 2) (by omega)
  obtain ⟨m4, a4, b4⟩ := refBit_is m3 (c.toNat / 2 / 2 / 2) (by omega)
  obtain ⟨m5, a5, b5⟩ := refBit_is m4 (c.toNat / 2 / 2 / 2 / 2) (by omega)
  obtain ⟨m6, a6, b6⟩ := refBit_is m5 (c.toNat / 2 / 2 / 2 / 2 / 2) (by omega)
  obtain ⟨m7, a7, b7⟩ := refBit_is m6 (c.toNat / 2 / 2 / 2 / 2 / 2 / 2) (by omega)
  obtain ⟨m8, a8, b8⟩ := refBit_is m7 (c.toNat / 2 / 2 / 2 / 2 / 2 / 2 / 2) (by omega)
  have hz : c.toNat / 2 / 2 / 2 / 2 / 2 / 2 / 2 / 2 = 0 := by omega
  unfold refByte byte1
  rw [a1, a2, a3, a4, a5, a6, a7, a8, half_is, half_is]
  rw [hz] at b8
  show m8.toNat = (bits4 (bits4 (n ^^^ BitVec.ofNat 32 c.toNat))).toNat
  unfold bits4
  rw [← b1, ← b2, ← b3, ← b4, ← b5, ← b6, ← b7, ← b8]
  simp
theorem refFold_is : ∀ (s : List UInt8) (n : BitVec 32), s.foldl (fun m c => refByte m c.toNat) n.toNat = (s.foldl byte1 n).toNat
  | [], _ => rfl
  | c :: s, n => by
    rw [List.foldl_cons, List.foldl_cons, refByte_is]
    exact refFold_is s _
/-- The document's checksum is this one. -/
theorem refCrc_is (s : List UInt8) : 4294967295 - s.foldl (fun m c => refByte m c.toNat) 4294967295 = (crcF s).toNat := by
  have := refFold_is s (BitVec.allOnes 32)
  rw [show (BitVec.allOnes 32).toNat = 4294967295 from rfl] at this
  rw [this, crcF, BitVec.toNat_not]
end Go.Proofs.YtdkonngkbbgcgaaGreatDoor

namespace Go.Proofs.YtdkonngkbbgcgaaGreatDoor
set_option maxRecDepth 100000
abbrev M64 : Nat := 18446744073709551616
/-- A row of a product: k steps of it. -/
def tIn (a b : List Nat) (i : Nat) (o : List Nat) : Nat → List Nat × Nat
  | 0 => (o, 0)
  | k + 1 =>
    let s := tIn a b i o k
    let n := ((s.1.getD (i + k) 0 + a.getD i 0 * b.getD k 0 % M64) % M64 + s.2) % M64
    (s.1.set (i + k) (n % 65536), n / 65536)
def tOut (a b : List Nat) : Nat → List Nat
  | 0 => List.replicate 9 0
  | i + 1 => (tIn a b i (tOut a b i) (9 - i)).1
def timesF (a b : List Nat) : List Nat := tOut a b 9
/-- The groups from the k-th down. -/
def lessF (a b : List Nat) : Nat → Bool
  | 0 => false
  | k + 1 => if a.getD k 0 = b.getD k 0 then lessF a b k else decide (a.getD k 0 < b.getD k 0)
def wideF (n : Nat) : List Nat := [n % 65536, n / 65536 % 65536, n / 65536 / 65536 % 65536, n / 65536 / 65536 / 65536 % 65536, 0, 0, 0, 0, 0]
/-- A power of a number: k products. -/
def powF (x : List Nat) : Nat → List Nat
  | 0 => x
  | k + 1 => timesF (powF x k) x
/-- The bits of a root: k of them, from the highest. -/
def rootF (n : List Nat) (p : Nat) : Nat → Nat
  | 0 => 0
  | k + 1 => if lessF n (powF (wideF (rootF n p k + 2 ^ (36 - k))) (p - 1)) 9 then rootF n p k else rootF n p k + 2 ^ (36 - k)
def rootOf (prime p : Nat) : Nat := rootF ((List.replicate 9 0).set (2 * p) prime) p 37 % 4294967296
/-! ### groups of 16 bits as a number -/
def val : List Nat → Nat
  | [] => 0
  | d :: l => d + 65536 * val l
def Dig (l : List Nat) : Prop := l.length = 9 ∧ ∀ i, l.getD i 0 < 65536
theorem val_set : ∀ (l : List Nat) (i x : Nat), i < l.length → val (l.set i x) + l.getD i 0 * 65536 ^ i = val l + x * 65536 ^ i
  | [], i, x, h => by cases h
  | d :: l, 0, x, h => by simp only [List.set_cons_zero, val, List.getD_cons_zero, Nat.pow_zero]; omega
  | d :: l, i + 1, x, h => by
    have := val_set l i x (Nat.lt_of_succ_lt_succ h)
    simp only [List.set_cons_succ, val, List.getD_cons_succ, Nat.pow_succ]
    have e : ∀ y : Nat, y * (65536 ^ i * 65536) = 65536 * (y * 65536 ^ i) := fun y => by rw [← Nat.mul_assoc, Nat.mul_comm]
    rw [e, e]
    omega
theorem val_take : ∀ (l : List Nat) (k : Nat), k < l.length → val (l.take (k + 1)) = val (l.take k) + l.getD k 0 * 65536 ^ k
  | [], k, h => by cases h
  | d :: l, 0, h => by simp only [List.take_succ_cons, List.take_zero, val, List.getD_cons_zero, Nat.pow_zero]; omega
  | d :: l, k + 1, h => by
    have := val_take l k (Nat.lt_of_succ_lt_succ h)
    rw [List.take_succ_cons, List.take_succ_cons]
    simp only [val, List.getD_cons_succ, Nat.pow_succ]
    have e : ∀ y : Nat, y * (65536 ^ k * 65536) = 65536 * (y * 65536 ^ k) := fun y => by rw [← Nat.mul_assoc, Nat.mul_comm]
    rw [e]
    omega
theorem val_split : ∀ (l : List Nat) (k : Nat), k ≤ l.length → val l = val (l.take k) + 65536 ^ k * val (l.drop k)
  | l, 0, _ => by simp [val]
  | [], k + 1, h => by cases h
  | d :: l, k + 1, h => by
    have := val_split l k (Nat.le_of_succ_le_succ h)
    rw [List.take_succ_cons, List.drop_succ_cons]
    simp only [val, Nat.pow_succ]
    rw [Nat.mul_comm (65536 ^ k) 65536, Nat.mul_assoc, this]
    omega
theorem val_lt {l : List Nat} (h : ∀ i, l.getD i 0 < 65536) : ∀ k, k ≤ l.length → val (l.take k) < 65536 ^ k
  | 0, _ => by simp [val]
  | k + 1, hk => by
    have ih := val_lt h k (by omega)
    rw [val_take l k (by omega), Nat.pow_succ]
    have := h k
    have : l.getD k 0 * 65536 ^ k ≤ 65535 * 65536 ^ k := Nat.mul_le_mul_right _ (by omega)
    omega
theorem dig_set {l : List Nat} (h : Dig l) (i : Nat) {x : Nat} (hx : x < 65536) : Dig (l.set i x) := by
  refine ⟨by rw [List.length_set]; exact h.1, fun j => ?_⟩
  rw [List.getD_eq_getElem?_getD, List.getElem?_set]
  split
  · split
    · exact hx
    · exact Nat.zero_lt_of_lt hx
  · exact (List.getD_eq_getElem?_getD ▸ h.2 j : l[j]?.getD 0 < 65536)
theorem tIn_is {a b o : List Nat} (ha : Dig a) (hb : Dig b) (ho : Dig o) (i : Nat) : ∀ k, i + k ≤ 9 → Dig (tIn a b i o k).1 ∧ (tIn a b i o k).2 < 65536 ∧ val (tIn a b i o k).1 + (tIn a b i o k).2 * 65536 ^ (i + k) = val o + a.getD i 0 * 65536 ^ i * val (b.take k)
  | 0, _ => ⟨ho, (by decide : (0 : Nat) < 65536), by simp [tIn, val]⟩
  | k + 1, hk => by
    obtain ⟨h1, h2, h3⟩ := tIn_is ha hb ho i k (by omega)
    have hs := val_set (tIn a b i o k).1 (i + k)
    have ht := val_take b k (by rw [hb.1]; omega)
    simp only [tIn]
    generalize (tIn a b i o k).1 = q at h1 h3 hs ⊢
    generalize (tIn a b i o k).2 = c at h2 h3 ⊢
    have hq := h1.2 (i + k)
    have hai := ha.2 i
    have hbk := hb.2 k
    generalize hqd : q.getD (i + k) 0 = qd at hq hs ⊢
    generalize had : a.getD i 0 = ai at hai h3 ⊢
    generalize hbd : b.getD k 0 = bk at hbk ht ⊢
    have hm : ai * bk ≤ 65535 * 65535 := Nat.mul_le_mul (by omega) (by omega)
    have hn : ((qd + ai * bk % M64) % M64 + c) % M64 = qd + ai * bk + c := by unfold M64; omega
    rw [hn]
    generalize hn2 : qd + ai * bk + c = n
    have hs' := hs (n % 65536) (by rw [h1.1]; omega)
    have hdiv : n % 65536 + 65536 * (n / 65536) = n := Nat.mod_add_div n 65536
    refine ⟨dig_set h1 _ (Nat.mod_lt _ (by decide)), by omega, ?_⟩
    rw [ht]
    have e1 : 65536 ^ (i + (k + 1)) = 65536 ^ (i + k) * 65536 := by rw [← Nat.add_assoc, Nat.pow_succ]
    have e2 : ai * 65536 ^ i * (val (b.take k) + bk * 65536 ^ k) = ai * 65536 ^ i * val (b.take k) + ai * bk * 65536 ^ (i + k) := by
      rw [Nat.mul_add, Nat.pow_add]
      congr 1
      simp only [Nat.mul_assoc, Nat.mul_left_comm, Nat.mul_comm]
    rw [e1, e2]
    generalize 65536 ^ (i + k) = D at hs' h3 ⊢
    have e3 : n / 65536 * (D * 65536) = 65536 * (n / 65536) * D := by simp only [Nat.mul_assoc, Nat.mul_left_comm, Nat.mul_comm]
    rw [e3]
    have e4 : n % 65536 * D + 65536 * (n / 65536) * D = qd * D + ai * bk * D + c * D := by rw [← Nat.add_mul, hdiv, ← hn2, Nat.add_mul, Nat.add_mul]
    omega
theorem tOut_is {a b : List Nat} (ha : Dig a) (hb : Dig b) : ∀ i, i ≤ 9 → Dig (tOut a b i) ∧ val (tOut a b i) % 65536 ^ 9 = val (a.take i) * val b % 65536 ^ 9
  | 0, _ => ⟨⟨rfl, fun i => by
      show (List.replicate 9 0).getD i 0 < 65536
      rw [List.getD_eq_getElem?_getD, List.getElem?_replicate]; split <;> decide⟩, by simp [tOut, val, List.replicate]⟩
  | i + 1, hi => by
    obtain ⟨h1, h2⟩ := tOut_is ha hb i (by omega)
    obtain ⟨h3, h4, h5⟩ := tIn_is ha hb h1 i (9 - i) (by omega)
    refine ⟨h3, ?_⟩
    show val (tIn a b i (tOut a b i) (9 - i)).1 % 65536 ^ 9 = _
    rw [val_take a i (by rw [ha.1]; omega), Nat.add_mul]
    rw [show i + (9 - i) = 9 by omega] at h5
    have hsp := val_split b (9 - i) (by rw [hb.1]; omega)
    have e1 : val (tIn a b i (tOut a b i) (9 - i)).1 % 65536 ^ 9 = (val (tOut a b i) + a.getD i 0 * 65536 ^ i * val (b.take (9 - i))) % 65536 ^ 9 := by
      rw [← h5, Nat.add_mul_mod_self_right]
    have e2 : a.getD i 0 * 65536 ^ i * val b % 65536 ^ 9 = a.getD i 0 * 65536 ^ i * val (b.take (9 - i)) % 65536 ^ 9 := by
      rw [hsp, Nat.mul_add]
      have : a.getD i 0 * 65536 ^ i * (65536 ^ (9 - i) * val (b.drop (9 - i))) = a.getD i 0 * val (b.drop (9 - i)) * 65536 ^ 9 := by
        have hp : (65536 : Nat) ^ 9 = 65536 ^ i * 65536 ^ (9 - i) := by rw [← Nat.pow_add, show i + (9 - i) = 9 by omega]
        rw [hp]
        simp only [Nat.mul_assoc, Nat.mul_left_comm, Nat.mul_comm]
      rw [this, Nat.add_mul_mod_self_right]
    rw [e1, Nat.add_mod, h2, ← e2, ← Nat.add_mod]
theorem times_is {a b : List Nat} (ha : Dig a) (hb : Dig b) : Dig (timesF a b) ∧ val (timesF a b) = val a * val b % 65536 ^ 9 := by
  obtain ⟨h1, h2⟩ := tOut_is ha hb 9 (Nat.le_refl _)
  refine ⟨h1, ?_⟩
  have h3 := val_lt h1.2 9 (by rw [h1.1]; exact Nat.le_refl _)
  rw [List.take_of_length_le (by rw [h1.1]; exact Nat.le_refl _)] at h3
  rw [List.take_of_length_le (by rw [ha.1]; exact Nat.le_refl _), Nat.mod_eq_of_lt h3] at h2
  exact h2
theorem less_is {a b : List Nat} (ha : Dig a) (hb : Dig b) : ∀ k, k ≤ 9 → lessF a b k = decide (val (a.take k) < val (b.take k))
  | 0, _ => by simp [lessF, val]
  | k + 1, hk => by
    have ih := less_is ha hb k (by omega)
    have h1 := val_lt ha.2 k (by rw [ha.1]; omega)
    have h2 := val_lt hb.2 k (by rw [hb.1]; omega)
    rw [lessF, val_take a k (by rw [ha.1]; omega), val_take b k (by rw [hb.1]; omega), ih]
    generalize a.getD k 0 = x
    generalize b.getD k 0 = y
    generalize val (a.take k) = p at h1 ⊢
    generalize val (b.take k) = q at h2 ⊢
    generalize 65536 ^ k = D at h1 h2 ⊢
    by_cases hxy : x = y
    · subst hxy
      rw [if_pos rfl]
      exact decide_eq_decide.2 ⟨fun h => by omega, fun h => by omega⟩
    · rw [if_neg hxy]
      refine decide_eq_decide.2 ⟨fun h => ?_, fun h => ?_⟩
      · have : (x + 1) * D ≤ y * D := Nat.mul_le_mul_right _ h
        rw [Nat.add_mul, Nat.one_mul] at this
        omega
      · rcases Nat.lt_or_gt_of_ne hxy with hl | hl
        · exact hl
        · have : (y + 1) * D ≤ x * D := Nat.mul_le_mul_right _ hl
          rw [Nat.add_mul, Nat.one_mul] at this
          omega
theorem dig_wide (n : Nat) : Dig (wideF n) := by
  refine ⟨rfl, fun i => ?_⟩
  unfold wideF
  match i with
  | 0 => exact Nat.mod_lt _ (by decide)
  | 1 => exact Nat.mod_lt _ (by decide)
  | 2 => exact Nat.mod_lt _ (by decide)
  | 3 => exact Nat.mod_lt _ (by decide)
  | 4 => exact (by decide : (0 : Nat) < 65536)
  | 5 => exact (by decide : (0 : Nat) < 65536)
  | 6 => exact (by decide : (0 : Nat) < 65536)
  | 7 => exact (by decide : (0 : Nat) < 65536)
  | 8 => exact (by decide : (0 : Nat) < 65536)
  | n + 9 => exact (by decide : (0 : Nat) < 65536)
theorem val_wide (n : Nat) (h : n < M64) : val (wideF n) = n := by
  unfold wideF M64 at *
  simp only [val]
  omega
theorem pow_is {x : List Nat} (hx : Dig x) (h : val x < 137438953472) : ∀ k, k ≤ 2 → Dig (powF x k) ∧ val (powF x k) = val x ^ (k + 1)
  | 0, _ => ⟨hx, (Nat.pow_one _).symm⟩
  | k + 1, hk => by
    obtain ⟨h1, h2⟩ := pow_is hx h k (by omega)
    obtain ⟨h3, h4⟩ := times_is h1 hx
    refine ⟨h3, ?_⟩
    show val (timesF (powF x k) x) = _
    rw [h4, h2, Nat.pow_succ _ (k + 1), Nat.mod_eq_of_lt]
    have : val x ^ (k + 1) * val x = val x ^ (k + 2) := (Nat.pow_succ ..).symm
    rw [this]
    have h5 : val x ^ (k + 2) ≤ 137438953472 ^ (k + 2) := Nat.pow_le_pow_left (by omega) _
    have h6 : (137438953472 : Nat) ^ (k + 2) ≤ 137438953472 ^ 3 := Nat.pow_le_pow_right (by decide) (by omega)
    have h7 : (137438953472 : Nat) ^ 3 < 65536 ^ 9 := by decide
    omega
/-- A root's bits, over numbers. -/
def rootN (n p : Nat) : Nat → Nat
  | 0 => 0
  | k + 1 => if n < (rootN n p k + 2 ^ (36 - k)) ^ p then rootN n p k else rootN n p k + 2 ^ (36 - k)
theorem rootN_lt (n p : Nat) : ∀ k, k ≤ 37 → rootN n p k + 2 ^ (37 - k) ≤ 137438953472
  | 0, _ => by simp [rootN]
  | k + 1, hk => by
    have ih := rootN_lt n p k (by omega)
    have e : 2 ^ (37 - k) = 2 ^ (36 - k) + 2 ^ (36 - k) := by
      rw [show 37 - k = (36 - k) + 1 by omega, Nat.pow_succ]; omega
    have hpos : 0 < 2 ^ (36 - k) := Nat.two_pow_pos _
    rw [show 37 - (k + 1) = 36 - k by omega]
    simp only [rootN]
    split <;> omega
theorem root_is {n : List Nat} (hn : Dig n) {p : Nat} (hp : 1 ≤ p ∧ p ≤ 3) : ∀ k, k ≤ 37 → rootF n p k = rootN (val n) p k
  | 0, _ => rfl
  | k + 1, hk => by
    have ih := root_is hn hp k (by omega)
    have hl := rootN_lt (val n) p k (by omega)
    have e : 2 ^ (37 - k) = 2 ^ (36 - k) + 2 ^ (36 - k) := by
      rw [show 37 - k = (36 - k) + 1 by omega, Nat.pow_succ]; omega
    have hpos : 0 < 2 ^ (36 - k) := Nat.two_pow_pos _
    rw [rootF, rootN, ih]
    have hw := val_wide (rootN (val n) p k + 2 ^ (36 - k)) (by unfold M64; omega)
    obtain ⟨h1, h2⟩ := pow_is (dig_wide (rootN (val n) p k + 2 ^ (36 - k))) (by rw [hw]; omega) (p - 1) (by omega)
    rw [less_is hn h1 9 (Nat.le_refl _), List.take_of_length_le (by rw [hn.1]; exact Nat.le_refl _), List.take_of_length_le (by rw [h1.1]; exact Nat.le_refl _), h2, hw, show p - 1 + 1 = p by omega]
    simp only [decide_eq_true_eq]
theorem rootOf_is (prime p : Nat) (hq : prime < 65536) (hp : 1 ≤ p ∧ p ≤ 3) : rootOf prime p = rootN (prime * 65536 ^ (2 * p)) p 37 % 4294967296 := by
  have hd : Dig (List.replicate 9 0) := ⟨rfl, fun i => by
      rw [List.getD_eq_getElem?_getD, List.getElem?_replicate]; split <;> decide⟩
  have hs := val_set (List.replicate 9 0) (2 * p) prime (by simp; omega)
  have hz : val (List.replicate 9 0) = 0 := rfl
  have hg : (List.replicate 9 0).getD (2 * p) 0 = 0 := by
    rw [List.getD_eq_getElem?_getD, List.getElem?_replicate]; split <;> rfl
  rw [hz, hg, Nat.zero_mul, Nat.add_zero, Nat.zero_add] at hs
  rw [rootOf, root_is (dig_set hd _ hq) hp 37 (Nat.le_refl _), hs]
def primes : List Nat := [2, 3, 5, 7, 11, 13, 17, 19, 23, 29, 31, 37, 41, 43, 47, 53, 59, 61, 67, 71, 73, 79, 83, 89, 97, 101, 103, 107, 109, 113, 127, 131, 137, 139, 149, 151, 157, 163, 167, 173, 179, 181, 191, 193, 197, 199, 211, 223, 227, 229, 233, 239, 241, 251, 257, 263, 269, 271, 277, 281, 283, 293, 307, 311]
def shaK : List Nat := [
  0x428a2f98, 0x71374491, 0xb5c0fbcf, 0xe9b5dba5, 0x3956c25b, 0x59f111f1,
  0x923f82a4, 0xab1c5ed5, 0xd807aa98, 0x12835b01, 0x243185be, 0x550c7dc3,
  0x72be5d74, 0x80deb1fe, 0x9bdc06a7, 0xc19bf174, 0xe49b69c1, 0xefbe4786,
  0x0fc19dc6, 0x240ca1cc, 0x2de92c6f, 0x4a7484aa, 0x5cb0a9dc, 0x76f988da,
  0x983e5152, 0xa831c66d, 0xb00327c8, 0xbf597fc7, 0xc6e00bf3, 0xd5a79147,
  0x06ca6351, 0x14292967, 0x27b70a85, 0x2e1b2138, 0x4d2c6dfc, 0x53380d13,
  0x650a7354, 0x766a0abb, 0x81c2c92e, 0x92722c85, 0xa2bfe8a1, 0xa81a664b,
  0xc24b8b70, 0xc76c51a3, 0xd192e819, 0xd6990624, 0xf40e3585, 0x106aa070,
  0x19a4c116, 0x1e376c08, 0x2748774c, 0x34b0bcb5, 0x391c0cb3, 0x4ed8aa4a,
  0x5b9cca4f, 0x682e6ff3, 0x748f82ee, 0x78a5636f, 0x84c87814, 0x8cc70208,
  0x90befffa, 0xa4506ceb, 0xbef9a3f7, 0xc67178f2]
def shaH : List Nat := [0x6a09e667, 0xbb67ae85, 0x3c6ef372, 0xa54ff53a, 0x510e527f, 0x9b05688c, 0x1f83d9ab, 0x5be0cd19]
theorem primes_lt : ∀ q ∈ primes, q < 65536 := by decide
theorem root_H : (primes.take 8).map (rootOf · 2) = shaH := by
  have : (primes.take 8).map (rootOf · 2) = (primes.take 8).map (fun q => rootN (q * 65536 ^ (2 * 2)) 2 37 % 4294967296) := List.map_congr_left fun q hq => rootOf_is q 2 (primes_lt q (List.mem_of_mem_take hq)) (by decide)
  rw [this]
  decide +kernel
theorem root_K : primes.map (rootOf · 3) = shaK := by
  have : primes.map (rootOf · 3) = primes.map (fun q => rootN (q * 65536 ^ (2 * 3)) 3 37 % 4294967296) := List.map_congr_left fun q hq => rootOf_is q 3 (primes_lt q hq) (by decide)
  rw [this]
  decide +kernel
end Go.Proofs.YtdkonngkbbgcgaaGreatDoor

namespace Go.Proofs.YtdkonngkbbgcgaaGreatDoor
set_option maxRecDepth 100000
abbrev W32 := BitVec 32
def rotr (x : W32) (n : Nat) : W32 := x >>> n ||| x <<< (32 - n)
def sg0 (x : W32) : W32 := rotr x 7 ^^^ rotr x 18 ^^^ x >>> 3
def sg1 (x : W32) : W32 := rotr x 17 ^^^ rotr x 19 ^^^ x >>> 10
structure V8 where
  a : W32
  b : W32
  c : W32
  d : W32
  e : W32
  f : W32
  g : W32
  h : W32
def V8.l (v : V8) : List W32 := [v.a, v.b, v.c, v.d, v.e, v.f, v.g, v.h]
def V8.add (v w : V8) : V8 := ⟨v.a + w.a, v.b + w.b, v.c + w.c, v.d + w.d, v.e + w.e, v.f + w.f, v.g + w.g, v.h + w.h⟩
def tA (v : V8) (k w : W32) : W32 := v.h + (rotr v.e 6 ^^^ rotr v.e 11 ^^^ rotr v.e 25) + ((v.e &&& v.f) ^^^ (~~~v.e &&& v.g)) + k + w
def tB (v : V8) : W32 := (rotr v.a 2 ^^^ rotr v.a 13 ^^^ rotr v.a 22) + ((v.a &&& v.b) ^^^ (v.a &&& v.c) ^^^ (v.b &&& v.c))
def rnd (v : V8) (k w : W32) : V8 := ⟨tA v k w + tB v, v.a, v.b, v.c, v.d + tA v k w, v.e, v.f, v.g⟩
/-- The words of a block's rounds. -/
def sched (m : Nat → W32) (i : Nat) : W32 :=
  if h : i < 16 then m i else sched m (i - 16) + sg0 (sched m (i - 15)) + sched m (i - 7) + sg1 (sched m (i - 2))
termination_by i
decreasing_by all_goals omega
theorem sched_low (m : Nat → W32) {i : Nat} (h : i < 16) : sched m i = m i := by rw [sched, dif_pos h]
theorem sched_up (m : Nat → W32) {i : Nat} (h : 16 ≤ i) : sched m i = sched m (i - 16) + sg0 (sched m (i - 15)) + sched m (i - 7) + sg1 (sched m (i - 2)) := by rw [sched, dif_neg (by omega)]
theorem sched_congr {m m' : Nat → W32} (h : ∀ i, i < 16 → m i = m' i) : ∀ i, sched m i = sched m' i := fun i => by
  induction i using Nat.strongRecOn with
  | ind i ih =>
    by_cases hi : i < 16
    · rw [sched_low m hi, sched_low m' hi, h i hi]
    · rw [sched_up m (by omega), sched_up m' (by omega), ih _ (by omega), ih _ (by omega), ih _ (by omega), ih _ (by omega)]
def runs (K m : Nat → W32) (v : V8) : Nat → V8
  | 0 => v
  | i + 1 => rnd (runs K m v i) (K i) (m i)
theorem runs_congr {K m m' : Nat → W32} (h : ∀ i, m i = m' i) (v : V8) : ∀ n, runs K m v n = runs K m' v n
  | 0 => rfl
  | n + 1 => by rw [runs, runs, runs_congr h v n, h]
def eat (K m : Nat → W32) (v : V8) : V8 := v.add (runs K (sched m) v 64)
theorem eat_congr {K m m' : Nat → W32} (h : ∀ i, i < 16 → m i = m' i) (v : V8) : eat K m v = eat K m' v := by
  rw [eat, eat, runs_congr (sched_congr h)]
def beW (a b c d : UInt8) : W32 := BitVec.ofNat 32 (a.toNat * 16777216 + b.toNat * 65536 + c.toNat * 256 + d.toNat)
def wordAt (p : List UInt8) (i : Nat) : W32 := beW (p.getD (4 * i) 0) (p.getD (4 * i + 1) 0) (p.getD (4 * i + 2) 0) (p.getD (4 * i + 3) 0)
/-- So many blocks of bytes. -/
def eatN (K : Nat → W32) (v : V8) (p : List UInt8) : Nat → V8
  | 0 => v
  | n + 1 => eat K (fun i => wordAt p (16 * n + i)) (eatN K v p n)
theorem wordAt_congr {p q : List UInt8} {i j : Nat} (h : ∀ k, k < 4 → p.getD (4 * i + k) 0 = q.getD (4 * j + k) 0) : wordAt p i = wordAt q j := by
  have h0 := h 0 (by decide)
  have h1 := h 1 (by decide)
  have h2 := h 2 (by decide)
  have h3 := h 3 (by decide)
  rw [Nat.add_zero, Nat.add_zero] at h0
  rw [wordAt, wordAt, h0, h1, h2, h3]
theorem eatN_congr {K : Nat → W32} {p q : List UInt8} (v : V8) : ∀ n, (∀ i, i < 64 * n → p.getD i 0 = q.getD i 0) → eatN K v p n = eatN K v q n
  | 0, _ => rfl
  | n + 1, h => by
    rw [eatN, eatN, eatN_congr v n fun i hi => h i (by omega)]
    exact eat_congr (fun i hi => wordAt_congr fun k hk => h _ (by omega)) _
theorem getD_append_left {p q : List UInt8} {i : Nat} (h : i < p.length) : (p ++ q).getD i 0 = p.getD i 0 := by
  rw [List.getD_eq_getElem?_getD, List.getD_eq_getElem?_getD, List.getElem?_append_left h]
theorem getD_append_right {p q : List UInt8} {i : Nat} (h : p.length ≤ i) : (p ++ q).getD i 0 = q.getD (i - p.length) 0 := by
  rw [List.getD_eq_getElem?_getD, List.getD_eq_getElem?_getD, List.getElem?_append_right h]
theorem eatN_append {K : Nat → W32} {p q : List UInt8} {n : Nat} (hp : p.length = 64 * n) (v : V8) : ∀ m, eatN K v (p ++ q) (n + m) = eatN K (eatN K v p n) q m
  | 0 => eatN_congr v n fun i hi => getD_append_left (by omega)
  | m + 1 => by
    show eat K _ (eatN K v (p ++ q) (n + m)) = eat K _ _
    rw [eatN_append hp v m]
    refine eat_congr (fun i hi => wordAt_congr fun k hk => ?_) _
    have hnm : n.add m = n + m := rfl
    rw [getD_append_right (by omega)]
    congr 1
    omega
/-- A block that is cut out. -/
theorem word_cut (p : List UInt8) (j : Nat) {i : Nat} (hi : i < 16) (hj : 64 * (j + 1) ≤ p.length) : wordAt ((p.drop (64 * j)).take 64) i = wordAt p (16 * j + i) :=
  wordAt_congr fun k hk => by
    rw [List.getD_eq_getElem?_getD, List.getD_eq_getElem?_getD, List.getElem?_take_of_lt (by omega), List.getElem?_drop, show 64 * j + (4 * i + k) = 4 * (16 * j + i) + k by omega]
theorem eat_cut {K : Nat → W32} (p : List UInt8) (j : Nat) (v : V8) (hj : 64 * (j + 1) ≤ p.length) : eat K (wordAt ((p.drop (64 * j)).take 64)) (eatN K v p j) = eatN K v p (j + 1) :=
  eat_congr (fun _ hi => word_cut p j hi hj) _
/-- The bytes of a length. -/
def be64 (n : Nat) : List UInt8 := [UInt8.ofNat (n / 2 ^ 56), UInt8.ofNat (n / 2 ^ 48), UInt8.ofNat (n / 2 ^ 40), UInt8.ofNat (n / 2 ^ 32), UInt8.ofNat (n / 2 ^ 24), UInt8.ofNat (n / 2 ^ 16), UInt8.ofNat (n / 2 ^ 8), UInt8.ofNat n]
/-- What stands behind bytes. -/
def padOf (n : Nat) : List UInt8 := 128 :: (List.replicate ((119 - n % 64) % 64) 0 ++ be64 (8 * n))
def Kf (i : Nat) : W32 := BitVec.ofNat 32 (shaK.getD i 0)
def H8 : V8 := ⟨0x6a09e667#32, 0xbb67ae85#32, 0x3c6ef372#32, 0xa54ff53a#32, 0x510e527f#32, 0x9b05688c#32, 0x1f83d9ab#32, 0x5be0cd19#32⟩
/-- The hash of bytes. -/
def shaV (s : List UInt8) : V8 := eatN Kf H8 (s ++ padOf s.length) ((s ++ padOf s.length).length / 64)
theorem pad_length (n : Nat) : (padOf n).length = (119 - n % 64) % 64 + 9 := by
  simp [padOf, be64]
/-- Blocks, and then what is left with what stands behind it. -/
theorem sha_last (s : List UInt8) : shaV s = eatN Kf (eatN Kf H8 s (s.length / 64)) (s.drop (64 * (s.length / 64)) ++ padOf s.length) (if s.length % 64 + 9 > 64 then 2 else 1) := by
  have hn : 64 * (s.length / 64) ≤ s.length := Nat.mul_div_le _ _
  have hp : (s.take (64 * (s.length / 64))).length = 64 * (s.length / 64) := by rw [List.length_take]; omega
  have hs : s ++ padOf s.length = s.take (64 * (s.length / 64)) ++ (s.drop (64 * (s.length / 64)) ++ padOf s.length) := by rw [← List.append_assoc, List.take_append_drop]
  have hl : (s ++ padOf s.length).length / 64 = s.length / 64 + (if s.length % 64 + 9 > 64 then 2 else 1) := by
    rw [List.length_append, pad_length]
    split <;> omega
  rw [shaV, hl, hs, eatN_append hp]
  congr 1
  exact eatN_congr _ _ fun i hi => by
    rw [List.getD_eq_getElem?_getD, List.getD_eq_getElem?_getD, List.getElem?_take_of_lt hi]
/-- The bytes of a hash. -/
def byteAt (x : W32) (j : Nat) : UInt8 := UInt8.ofNat (x.toNat / 2 ^ (24 - 8 * j))
def hashL (v : V8) : List UInt8 := v.l.flatMap fun x => [byteAt x 0, byteAt x 1, byteAt x 2, byteAt x 3]
theorem hashL_length (v : V8) : (hashL v).length = 32 := rfl
def shaF (s : List UInt8) : List UInt8 := hashL (shaV s)
/-! ### the ring of the program -/
/-- Which word stands in the ring at j when n words are out. -/
def ringIx (n j : Nat) : Nat := max n 16 - 16 + (j + 15 * max n 16) % 16
theorem ringIx_low {n j : Nat} (hn : n ≤ 16) (hj : j < 16) : ringIx n j = j := by unfold ringIx; omega
theorem ringIx_at {n d : Nat} (hn : 16 ≤ n) (hd : d < 16) : ringIx n ((n + d) % 16) = n - 16 + d := by unfold ringIx; omega
theorem ringIx_next {n j : Nat} (hn : 16 ≤ n) (hj : j < 16) : ringIx (n + 1) j = if j = n % 16 then n else ringIx n j := by
  unfold ringIx
  split <;> omega
def ring (m : Nat → W32) (n : Nat) : List W32 := (List.range 16).map fun j => sched m (ringIx n j)
theorem ring_length (m : Nat → W32) (n : Nat) : (ring m n).length = 16 := by simp [ring]
theorem ring_get (m : Nat → W32) (n : Nat) {j : Nat} (hj : j < 16) : (ring m n)[j]? = some (sched m (ringIx n j)) := by
  simp [ring, hj]
theorem ring_low (m : Nat → W32) {n : Nat} (hn : n ≤ 16) : ring m n = (List.range 16).map m :=
  List.map_congr_left fun j hj => by
    have := List.mem_range.1 hj
    rw [ringIx_low hn this, sched_low m this]
/-- A word that is out is put in the ring. -/
theorem ring_up (m : Nat → W32) {n : Nat} (hn : 16 ≤ n) : ring m (n + 1) = (ring m n).set (n % 16) (sched m n) := by
  apply List.ext_getElem?
  intro j
  rw [List.getElem?_set]
  by_cases hj : j < 16
  · rw [ring_get m _ hj, ring_get m _ hj, ringIx_next hn hj, ring_length]
    by_cases h : n % 16 = j
    · rw [if_pos h, if_pos h.symm, if_pos (by omega)]
    · rw [if_neg h, if_neg (fun e => h e.symm)]
  · have h1 : (ring m (n + 1))[j]? = none := List.getElem?_eq_none (by rw [ring_length]; omega)
    have h2 : (ring m n)[j]? = none := List.getElem?_eq_none (by rw [ring_length]; omega)
    rw [h1, h2, if_neg (by omega)]
/-- What the program puts there. -/
theorem ring_word (m : Nat → W32) {n : Nat} (hn : 16 ≤ n) : sched m n = sched m (ringIx n (n % 16)) + (sg0 (sched m (ringIx n ((n + 1) % 16))) + sched m (ringIx n ((n + 9) % 16)) + sg1 (sched m (ringIx n ((n + 14) % 16)))) := by
  have h0 := ringIx_at (n := n) (d := 0) hn (by decide)
  rw [Nat.add_zero, Nat.add_zero] at h0
  rw [h0, ringIx_at hn (by decide), ringIx_at hn (by decide), ringIx_at hn (by decide), sched_up m hn]
  rw [show n - 15 = n - 16 + 1 by omega, show n - 7 = n - 16 + 9 by omega, show n - 2 = n - 16 + 14 by omega]
  simp only [BitVec.add_assoc]
end Go.Proofs.YtdkonngkbbgcgaaGreatDoor

namespace Go.Proofs.YtdkonngkbbgcgaaGreatDoor
set_option maxRecDepth 100000
def u8W (c : UInt8) : W32 := BitVec.ofNat 32 c.toNat
theorem u8W_toNat (c : UInt8) : (u8W c).toNat = c.toNat := by
  rw [u8W, BitVec.toNat_ofNat, Nat.mod_eq_of_lt (by have := c.toNat_lt; omega)]
/-- As the program does. -/
theorem word_or (a b c d : UInt8) : u8W a <<< 24 ||| u8W b <<< 16 ||| u8W c <<< 8 ||| u8W d = beW a b c d := by
  have ha := a.toNat_lt
  have hb := b.toNat_lt
  have hc := c.toNat_lt
  have hd := d.toNat_lt
  apply BitVec.eq_of_toNat_eq
  have sh : ∀ (x : UInt8) (k : Nat), k ≤ 24 → (u8W x <<< k).toNat = x.toNat * 2 ^ k := fun x k hk => by
    have hx := x.toNat_lt
    rw [BitVec.toNat_shiftLeft, u8W_toNat, Nat.shiftLeft_eq, Nat.mod_eq_of_lt]
    have h1 : 2 ^ k ≤ 2 ^ 24 := Nat.pow_le_pow_right (by decide) hk
    have h2 : x.toNat * 2 ^ k ≤ 255 * 2 ^ 24 := Nat.mul_le_mul (by omega) h1
    omega
  rw [BitVec.toNat_or, BitVec.toNat_or, BitVec.toNat_or, sh a 24 (by decide), sh b 16 (by decide), sh c 8 (by decide), u8W_toNat]
  have or_add : ∀ (x y k : Nat), y < 2 ^ k → x * 2 ^ k ||| y = x * 2 ^ k + y := fun x y k h => by
    have := Nat.shiftLeft_add_eq_or_of_lt h x
    rw [Nat.shiftLeft_eq] at this
    exact this.symm
  rw [or_add a.toNat (b.toNat * 2 ^ 16) 24 (by omega)]
  rw [show a.toNat * 2 ^ 24 + b.toNat * 2 ^ 16 = (a.toNat * 256 + b.toNat) * 2 ^ 16 by omega, or_add _ (c.toNat * 2 ^ 8) 16 (by omega)]
  rw [show (a.toNat * 256 + b.toNat) * 2 ^ 16 + c.toNat * 2 ^ 8 = (a.toNat * 65536 + b.toNat * 256 + c.toNat) * 2 ^ 8 by omega, or_add _ d.toNat 8 (by omega)]
  rw [beW, BitVec.toNat_ofNat, Nat.mod_eq_of_lt (by omega)]
  omega
/-- As the document does. -/
theorem word_sum (a b c d : UInt8) : ((a.toNat * 16777216 % 4294967296 + b.toNat * 65536 % 4294967296) % 4294967296 + c.toNat * 256 % 4294967296) % 4294967296 + d.toNat = (beW a b c d).toNat := by
  have ha := a.toNat_lt
  have hb := b.toNat_lt
  have hc := c.toNat_lt
  have hd := d.toNat_lt
  rw [beW, BitVec.toNat_ofNat]
  omega
/-- A number as so many bytes, the highest first. -/
def beN : Nat → Nat → List UInt8
  | 0, _ => []
  | w + 1, n => beN w (n / 256) ++ [UInt8.ofNat n]
theorem beN_length : ∀ (w n : Nat), (beN w n).length = w
  | 0, _ => rfl
  | w + 1, n => by rw [beN, List.length_append, beN_length w]; rfl
/-- The number of bytes. -/
def beV (l : List UInt8) : Nat := l.foldl (fun n c => n * 256 + c.toNat) 0
theorem beV_snoc (l : List UInt8) (c : UInt8) : beV (l ++ [c]) = beV l * 256 + c.toNat := by
  rw [beV, beV, List.foldl_append]; rfl
theorem beV_beN : ∀ (w n : Nat), n < 256 ^ w → beV (beN w n) = n
  | 0, n, h => by simp at h; subst h; rfl
  | w + 1, n, h => by
    rw [beN, beV_snoc, beV_beN w (n / 256) (by rw [Nat.pow_succ] at h; omega)]
    have : (UInt8.ofNat n).toNat = n % 256 := by simp
    rw [this]
    omega
theorem beV_aux : ∀ (l : List UInt8) (n k : Nat), n < 256 ^ k → l.foldl (fun n c => n * 256 + c.toNat) n < 256 ^ (k + l.length)
  | [], _, _, h => h
  | c :: l, n, k, h => by
    have hc := c.toNat_lt
    have := beV_aux l (n * 256 + c.toNat) (k + 1) (by rw [Nat.pow_succ]; omega)
    rw [List.foldl_cons, List.length_cons, show k + (l.length + 1) = k + 1 + l.length by omega]
    exact this
theorem beV_lt (l : List UInt8) : beV l < 256 ^ l.length := by
  have := beV_aux l 0 0 (by decide)
  rwa [Nat.zero_add] at this
end Go.Proofs.YtdkonngkbbgcgaaGreatDoor

namespace Go.Proofs.YtdkonngkbbgcgaaGreatDoor
set_option maxRecDepth 100000
abbrev Bys := List UInt8
/-- An opener: what is left, and whether it failed. -/
abbrev Opn := Bys × Bool
def opT (n : Nat) (o : Opn) : Bys × Opn := if o.2 then ([], o) else if o.1.length < n then ([], (o.1, true)) else (o.1.take n, (o.1.drop n, false))
def opN (w : Nat) (o : Opn) : Nat × Opn := (beV (opT w o).1, (opT w o).2)
theorem opT_ok (a b : Bys) : opT a.length (a ++ b, false) = (a, (b, false)) := by
  unfold opT
  simp
theorem opN_ok {w n : Nat} (h : n < 256 ^ w) (b : Bys) : opN w (beN w n ++ b, false) = (n, (b, false)) := by
  have := opT_ok (beN w n) b
  rw [beN_length] at this
  rw [opN, this]
  simp only [beV_beN w n h]
theorem opT_bad (n : Nat) (r : Bys) : opT n (r, true) = ([], (r, true)) := by simp [opT]
theorem opT_len (n : Nat) (o : Opn) : (opT n o).1.length ≤ n := by
  unfold opT
  split
  · simp
  · split
    · simp
    · rw [List.length_take]; omega
/-- Texts, each with its length ahead of it. -/
def chF : Nat → Opn → List Bys × Opn
  | 0, o => ([], o)
  | n + 1, o => if o.2 then ([], o) else ((opT (opN 2 o).1 (opN 2 o).2).1 :: (chF n (opT (opN 2 o).1 (opN 2 o).2).2).1, (chF n (opT (opN 2 o).1 (opN 2 o).2).2).2)
def chP (l : List Bys) : Bys := l.flatMap fun c => beN 2 c.length ++ c
theorem chF_ok : ∀ (l : List Bys) (r : Bys), (∀ c ∈ l, c.length < 65536) → chF l.length (chP l ++ r, false) = (l, (r, false))
  | [], _, _ => rfl
  | c :: l, r, h => by
    have hc := h c (by simp)
    have ih := chF_ok l r fun x hx => h x (by simp [hx])
    have e : chP (c :: l) ++ r = beN 2 c.length ++ (c ++ (chP l ++ r)) := by simp [chP]
    rw [List.length_cons, chF, if_neg (by simp), e, opN_ok (show c.length < 256 ^ 2 from hc)]
    simp only [opT_ok, ih]
/-- A stream: the root's bytes, and chunks. -/
structure Strm where
  root : Bys
  chunks : List Bys
def magicL : Bys := [65, 82, 83, 84]
def bodyF (x : Strm) : Bys := magicL ++ x.root ++ beN 2 x.chunks.length ++ chP x.chunks
def sumF (s : Bys) : Bys := beN 4 (crcF s).toNat
def putF (x : Strm) : Bys := bodyF x ++ sumF (bodyF x)
/-- What is parsed of a body, and whether it failed. -/
def parF (s : Bys) : Strm × Opn := (⟨(s.drop 4).take 32, (chF (beV ((s.drop 36).take 2)) (s.drop 38, false)).1⟩, (chF (beV ((s.drop 36).take 2)) (s.drop 38, false)).2)
theorem par_body {x : Strm} (hr : x.root.length = 32) (hn : x.chunks.length < 65536) (hc : ∀ c ∈ x.chunks, c.length < 65536) : parF (bodyF x) = (x, ([], false)) := by
  have e1 : (bodyF x).drop 4 = x.root ++ (beN 2 x.chunks.length ++ chP x.chunks) := by simp [bodyF, magicL]
  have e2 : (bodyF x).drop 36 = beN 2 x.chunks.length ++ chP x.chunks := by
    rw [show 36 = 4 + 32 from rfl, ← List.drop_drop, e1, ← hr, List.drop_left]
  have e3 : (bodyF x).drop 38 = chP x.chunks := by
    have : (beN 2 x.chunks.length ++ chP x.chunks).drop 2 = chP x.chunks := by
      have h := beN_length 2 x.chunks.length
      generalize beN 2 x.chunks.length = q at h ⊢
      rw [← h, List.drop_left]
    rw [show 38 = 36 + 2 from rfl, ← List.drop_drop, e2, this]
  have e4 : (beN 2 x.chunks.length ++ chP x.chunks).take 2 = beN 2 x.chunks.length := by
    have h := beN_length 2 x.chunks.length
    generalize beN 2 x.chunks.length = q at h ⊢
    rw [← h, List.take_left]
  have e5 : (x.root ++ (beN 2 x.chunks.length ++ chP x.chunks)).take 32 = x.root := by rw [← hr, List.take_left]
  have := chF_ok x.chunks [] hc
  rw [List.append_nil] at this
  unfold parF
  rw [e1, e2, e3, e4, e5, beV_beN 2 _ (show x.chunks.length < 256 ^ 2 from hn), this]
/-- Whether bytes' last four are their sum. -/
def sumOk (b : Bys) : Bool := decide (sumF (b.take (b.length - 4)) = b.drop (b.length - 4))
theorem sum_length (s : Bys) : (sumF s).length = 4 := beN_length 4 _
theorem sum_put (x : Strm) : sumOk (putF x) = true := by
  have h : (putF x).length - 4 = (bodyF x).length := by rw [putF, List.length_append, sum_length]; omega
  unfold sumOk
  rw [h, putF, List.take_left, List.drop_left]
  exact decide_eq_true rfl
theorem sum_inj {s t : Bys} (h : sumF s = sumF t) : crcF s = crcF t := by
  have h1 := congrArg beV h
  unfold sumF at h1
  rw [beV_beN 4 _ (show (crcF s).toNat < 256 ^ 4 from (crcF s).isLt), beV_beN 4 _ (show (crcF t).toNat < 256 ^ 4 from (crcF t).isLt)] at h1
  exact BitVec.eq_of_toNat_eq h1
/-- One byte of bytes with a sum is another one: the sum tells it. -/
theorem sum_one {a r : Bys} {c d : UInt8} (h : sumOk (a ++ c :: r) = true) (hl : 4 ≤ (a ++ c :: r).length) (h' : sumOk (a ++ d :: r) = true) : c = d := by
  unfold sumOk at h h'
  have h1 := of_decide_eq_true h
  have h2 := of_decide_eq_true h'
  have hle : (a ++ d :: r).length = (a ++ c :: r).length := by simp
  rw [hle] at h2
  generalize hk : (a ++ c :: r).length - 4 = k at h1 h2
  have hlen : (a ++ c :: r).length = a.length + (r.length + 1) := by simp
  by_cases ha : a.length < k
  · obtain ⟨m, hm⟩ : ∃ m, k = a.length + (m + 1) := ⟨k - a.length - 1, by omega⟩
    subst hm
    rw [List.take_length_add_append, List.drop_length_add_append, List.take_succ_cons, List.drop_succ_cons] at h1 h2
    exact crc_one a (r.take m) (sum_inj (h1.trans h2.symm))
  · have e1 : (a ++ c :: r).take k = (a ++ d :: r).take k := by
      rw [List.take_append_of_le_length (by omega), List.take_append_of_le_length (by omega)]
    rw [e1] at h1
    have h3 := h1.symm.trans h2
    have h4 := congrArg (fun l => l[a.length - k]?) h3
    simp only [List.getElem?_drop] at h4
    rw [show k + (a.length - k) = a.length by omega] at h4
    simpa using h4
end Go.Proofs.YtdkonngkbbgcgaaGreatDoor

namespace Go.Proofs.YtdkonngkbbgcgaaGreatDoor
set_option maxRecDepth 100000
/-- Where a hash stands first; the length: nowhere. -/
def atN (l : List Bys) (h : Bys) : Nat := l.findIdx fun x => decide (x = h)
theorem at_lt (l : List Bys) (h : Bys) (i : Nat) (hi : i ≤ l.length) : atN l h < i ↔ h ∈ l.take i := by
  constructor
  · intro hl
    have hlt : atN l h < l.length := by omega
    have := List.findIdx_getElem (w := hlt)
    have hx : l[atN l h] = h := of_decide_eq_true this
    rw [List.mem_take_iff_getElem]
    exact ⟨atN l h, by omega, hx⟩
  · intro hm
    obtain ⟨j, hj, hx⟩ := List.mem_take_iff_getElem.1 hm
    rcases Nat.lt_or_ge j (atN l h) with hlt | hge
    · have := List.not_of_lt_findIdx hlt
      simp only [hx, decide_true] at this
      exact absurd this.symm Bool.false_ne_true
    · omega
theorem at_le (l : List Bys) (h : Bys) : atN l h ≤ l.length := List.findIdx_le_length
theorem at_mem (l : List Bys) (h : Bys) : atN l h < l.length ↔ h ∈ l := by
  rw [at_lt l h l.length (Nat.le_refl _), List.take_length]
theorem unlike_iff (l : List Bys) : l.Nodup ↔ ∀ (i : Nat) (h : i < l.length), atN l l[i] = i := by
  unfold List.Nodup
  rw [List.pairwise_iff_getElem]
  constructor
  · intro hp i hi
    have h1 : atN l l[i] < i + 1 := (at_lt l _ (i + 1) (by omega)).2 (List.mem_take_iff_getElem.2 ⟨i, by omega, rfl⟩)
    have hlt : atN l l[i] < l.length := by omega
    have h2 : l[atN l l[i]] = l[i] := of_decide_eq_true (List.findIdx_getElem (w := hlt))
    rcases Nat.lt_or_ge (atN l l[i]) i with h3 | h3
    · exact absurd h2 (hp _ _ hlt hi h3)
    · omega
  · intro ha i j hi hj hij he
    have h1 : atN l l[j] < i + 1 := (at_lt l _ (i + 1) (by omega)).2 (List.mem_take_iff_getElem.2 ⟨i, by omega, he⟩)
    rw [ha j hj] at h1
    omega
/-- A chunk's children (none: it is no chunk) may stand at i. -/
def kidsOk (hs : List Bys) (i : Nat) (k : Option (List Bys)) : Bool := match k with
  | none => false
  | some l => l.all fun h => decide (atN hs h = hs.length) || decide (h ∈ hs.take i)
/-- As the document says it, of a chunk at i. -/
def refOk (hs : List Bys) (i : Nat) (x : Bys × Option (List Bys)) : Bool := match x.2 with
  | none => false
  | some l => decide (atN hs x.1 = i) && l.all fun h => decide (atN hs h = hs.length) || decide (atN hs h < i)
theorem ok_iff (hs : List Bys) {i : Nat} (hi : i < hs.length) (k : Option (List Bys)) (hu : atN hs hs[i] = i) : refOk hs i (hs[i], k) = kidsOk hs i k := by
  unfold refOk kidsOk
  cases k with
  | none => rfl
  | some l =>
    simp only [hu, decide_true, Bool.true_and]
    congr 1
    funext h
    congr 1
    exact decide_eq_decide.2 (at_lt hs h i (by omega))
/-- All chunks, from the i-th on. -/
def allFrom {α : Type} (f : Nat → α → Bool) : Nat → List α → Bool
  | _, [] => true
  | i, x :: l => f i x && allFrom f (i + 1) l
theorem allFrom_congr {α β : Type} {f : Nat → α → Bool} {g : Nat → β → Bool} : ∀ (l : List α) (m : List β) (i : Nat), l.length = m.length → (∀ j (h : j < l.length) (h' : j < m.length), f (i + j) l[j] = g (i + j) m[j]) → allFrom f i l = allFrom g i m
  | [], [], _, _, _ => rfl
  | [], _ :: _, _, h, _ => by cases h
  | _ :: _, [], _, h, _ => by cases h
  | x :: l, y :: m, i, hl, h => by
    have h0 := h 0 (by simp) (by simp)
    simp only [Nat.add_zero, List.getElem_cons_zero] at h0
    rw [allFrom, allFrom, h0]
    congr 1
    refine allFrom_congr l m (i + 1) (by simpa using hl) fun j hj hj' => ?_
    have := h (j + 1) (by simp only [List.length_cons]; omega) (by simp only [List.length_cons]; omega)
    simp only [List.getElem_cons_succ] at this
    rw [show i + 1 + j = i + (j + 1) by omega]
    exact this
/-- What the program asks. -/
def mayP (hs : List Bys) (ks : List (Option (List Bys))) : Bool := decide hs.Nodup && decide (hs.length ≤ 512) && allFrom (kidsOk hs) 0 ks
/-- What the document says. -/
def mayR (hs : List Bys) (ks : List (Option (List Bys))) : Bool := decide (hs.length ≤ 512) && allFrom (refOk hs) 0 (hs.zip ks)
theorem all_at {α : Type} {f : Nat → α → Bool} : ∀ (l : List α) (i : Nat), allFrom f i l = true → ∀ j (h : j < l.length), f (i + j) l[j] = true
  | [], _, _, _, h => by cases h
  | x :: l, i, ha, 0, _ => by
    rw [allFrom, Bool.and_eq_true] at ha
    exact ha.1
  | x :: l, i, ha, j + 1, h => by
    rw [allFrom, Bool.and_eq_true] at ha
    have := all_at l (i + 1) ha.2 j (by simpa using h)
    rw [show i + (j + 1) = i + 1 + j by omega]
    exact this
theorem may_same (hs : List Bys) (ks : List (Option (List Bys))) (hl : ks.length = hs.length) : mayP hs ks = mayR hs ks := by
  unfold mayP mayR
  have hz : (hs.zip ks).length = hs.length := by rw [List.length_zip, hl, Nat.min_self]
  by_cases hu : hs.Nodup
  · rw [decide_eq_true hu, Bool.true_and]
    congr 1
    refine allFrom_congr ks (hs.zip ks) 0 (by rw [hz, hl]) fun j hj hj' => ?_
    rw [List.getElem_zip, Nat.zero_add]
    exact (ok_iff hs (by omega) _ ((unlike_iff hs).1 hu j (by omega))).symm
  · rw [decide_eq_false hu, Bool.false_and, Bool.false_and]
    cases hr : allFrom (refOk hs) 0 (hs.zip ks) with
    | false => rw [Bool.and_false]
    | true =>
      refine absurd ((unlike_iff hs).2 fun i hi => ?_) hu
      have := all_at _ _ hr i (by rw [hz]; exact hi)
      rw [List.getElem_zip, Nat.zero_add] at this
      unfold refOk at this
      split at this
      · exact absurd this Bool.false_ne_true
      · exact of_decide_eq_true (Bool.and_eq_true _ _ ▸ this : _ ∧ _).1
end Go.Proofs.YtdkonngkbbgcgaaGreatDoor

namespace Go.Proofs.YtdkonngkbbgcgaaGreatDoor
set_option maxRecDepth 100000
structure CKid where
  name : Bys
  dir : Bool
  hash : Bys
  height : Nat
  size : Nat
structure Chk where
  kind : Nat
  data : Bys
  kids : List CKid
/-- A name, and how long it is ahead of it. -/
def opName (o : Opn) : Bys × Opn := if o.2 then ([], o) else match o.1 with
  | [] => ([], ([], true))
  | c :: r => if r.length < c.toNat then ([], (c :: r, true)) else (r.take c.toNat, (r.drop c.toNat, false))
def hash32 (h : Bys) : Bys := if h.length = 32 then h else List.replicate 32 0
/-- The end of a child: its hash, height and size. -/
def kidE (nm : Bys) (d : Bool) (o : Opn) : CKid × Opn := (⟨nm, d, hash32 (opT 32 o).1, (opN 1 (opT 32 o).2).1, (opN 4 (opN 1 (opT 32 o).2).2).1⟩, (opN 4 (opN 1 (opT 32 o).2).2).2)
def kidF (kind : Nat) (o : Opn) : CKid × Opn := if kind = 3 then kidE (opName (opN 1 o).2).1 (decide ((opN 1 o).1 = 1)) (opName (opN 1 o).2).2 else kidE [] false o
def kidsF (kind : Nat) : Nat → Opn → List CKid × Opn
  | 0, o => ([], o)
  | n + 1, o => ((kidF kind o).1 :: (kidsF kind n (kidF kind o).2).1, (kidsF kind n (kidF kind o).2).2)
def parC (b : Bys) : Chk × Opn :=
  if (opN 1 (b, false)).1 = 1 then (⟨1, (opN 1 (b, false)).2.1, []⟩, ([], (opN 1 (b, false)).2.2))
  else (⟨(opN 1 (b, false)).1, [], (kidsF (opN 1 (b, false)).1 (opN 1 (opN 1 (b, false)).2).1 (opN 1 (opN 1 (b, false)).2).2).1⟩, (kidsF (opN 1 (b, false)).1 (opN 1 (opN 1 (b, false)).2).1 (opN 1 (opN 1 (b, false)).2).2).2)
def kidP (kind : Nat) (k : CKid) : Bys := (if kind = 3 then (if k.dir then 1 else 0) :: (beN 1 k.name.length ++ k.name) else []) ++ (k.hash ++ (beN 1 k.height ++ beN 4 k.size))
def putC (c : Chk) : Bys := beN 1 c.kind ++ c.data ++ (if c.kind = 1 then [] else beN 1 c.kids.length) ++ c.kids.flatMap (kidP c.kind)
/-! ### lengths -/
theorem opT_not {n : Nat} {o : Opn} (h : (opT n o).2.2 = false) : o.2 = false ∧ n ≤ o.1.length ∧ (opT n o).1 = o.1.take n ∧ (opT n o).2.1 = o.1.drop n := by
  unfold opT at *
  split at h
  · rename_i hb; rw [hb] at h; cases h
  · rename_i hb
    split at h
    · cases h
    · rename_i hl
      rw [if_neg hb, if_neg hl]
      exact ⟨by simpa using hb, by omega, rfl, rfl⟩
theorem opT_yes {n : Nat} {o : Opn} (h : (opT n o).2.2 = true) (h' : o.2 = false) : o.1.length < n := by
  unfold opT at h
  rw [h', if_neg Bool.false_ne_true] at h
  split at h
  · assumption
  · cases h
theorem hash32_len (h : Bys) : (hash32 h).length = 32 := by
  unfold hash32
  split
  · assumption
  · rw [List.length_replicate]
theorem kidE_len (kind : Nat) (nm : Bys) (d : Bool) (o : Opn) : (kidP kind (kidE nm d o).1).length = (if kind = 3 then 2 + nm.length else 0) + 37 := by
  simp only [kidP, kidE, List.length_append, beN_length, hash32_len]
  split
  · simp only [List.length_cons, List.length_append, beN_length]; omega
  · rfl
theorem kidE_not {nm : Bys} {d : Bool} {o : Opn} (h : (kidE nm d o).2.2 = false) : o.2 = false ∧ 37 + (kidE nm d o).2.1.length = o.1.length := by
  simp only [kidE, opN] at h ⊢
  obtain ⟨a1, a2, a3, a4⟩ := opT_not h
  obtain ⟨b1, b2, b3, b4⟩ := opT_not a1
  obtain ⟨c1, c2, c3, c4⟩ := opT_not b1
  refine ⟨c1, ?_⟩
  rw [a4, b4, c4]
  rw [b4, c4] at a2
  rw [c4] at b2
  simp only [List.length_drop] at *
  omega
theorem kidE_yes {nm : Bys} {d : Bool} {o : Opn} (h : (kidE nm d o).2.2 = true) (h' : o.2 = false) : o.1.length < 37 := by
  simp only [kidE, opN] at h
  rcases hb : (opT 32 o).2.2 with _ | _
  · obtain ⟨c1, c2, c3, c4⟩ := opT_not hb
    rcases hb2 : (opT 1 (opT 32 o).2).2.2 with _ | _
    · obtain ⟨b1, b2, b3, b4⟩ := opT_not hb2
      have := opT_yes h hb2
      rw [b4, c4] at this
      rw [c4] at b2
      simp only [List.length_drop] at *
      omega
    · have := opT_yes hb2 hb
      rw [c4] at this
      simp only [List.length_drop] at *
      omega
  · have := opT_yes hb h'
    omega
theorem opName_not {o : Opn} (h : (opName o).2.2 = false) : o.2 = false ∧ 1 + (opName o).1.length + (opName o).2.1.length = o.1.length := by
  obtain ⟨r, bad⟩ := o
  unfold opName at *
  cases bad with
  | true => simp at h
  | false =>
    cases r with
    | nil => simp at h
    | cons c r =>
      simp only [if_neg Bool.false_ne_true] at h ⊢
      split at h
      · cases h
      · rename_i hl
        rw [if_neg hl]
        refine ⟨trivial, ?_⟩
        simp only [List.length_take, List.length_drop, List.length_cons]
        omega
theorem opName_yes {o : Opn} (h : (opName o).2.2 = true) : (opName o).1 = [] := by
  obtain ⟨r, bad⟩ := o
  unfold opName at *
  cases bad with
  | true => rfl
  | false =>
    cases r with
    | nil => rfl
    | cons c r =>
      simp only [if_neg Bool.false_ne_true] at h ⊢
      split at h
      · rename_i hl; rw [if_pos hl]
      · cases h
theorem kid_not {kind : Nat} {o : Opn} (h : (kidF kind o).2.2 = false) : o.2 = false ∧ (kidP kind (kidF kind o).1).length + (kidF kind o).2.1.length = o.1.length := by
  unfold kidF at *
  split at h
  · rename_i hk
    simp only [hk, if_true] at h ⊢
    obtain ⟨a1, a2⟩ := kidE_not h
    obtain ⟨b1, b2⟩ := opName_not a1
    obtain ⟨c1, c2, c3, c4⟩ := opT_not (n := 1) (o := o) b1
    refine ⟨c1, ?_⟩
    rw [kidE_len, if_pos rfl]
    have : (opN 1 o).2.1.length = o.1.length - 1 := by
      show (opT 1 o).2.1.length = _
      rw [c4, List.length_drop]
    omega
  · rename_i hk
    simp only [if_neg hk] at h ⊢
    obtain ⟨a1, a2⟩ := kidE_not h
    refine ⟨a1, ?_⟩
    rw [kidE_len, if_neg hk]
    omega
theorem kid_yes {kind : Nat} {o : Opn} (h : (kidF kind o).2.2 = true) (h' : o.2 = false) : o.1.length < (kidP kind (kidF kind o).1).length ∨ kind = 3 ∧ (kidF kind o).1.name = [] := by
  unfold kidF at *
  split at h
  · rename_i hk
    simp only [hk, if_true] at h ⊢
    rcases hn : (opName (opN 1 o).2).2.2 with _ | _
    · obtain ⟨b1, b2⟩ := opName_not hn
      obtain ⟨c1, c2, c3, c4⟩ := opT_not (n := 1) (o := o) b1
      have h3 := kidE_yes h hn
      left
      rw [kidE_len, if_pos rfl]
      have : (opN 1 o).2.1.length = o.1.length - 1 := by
        show (opT 1 o).2.1.length = _
        rw [c4, List.length_drop]
      omega
    · exact .inr ⟨trivial, opName_yes hn⟩
  · rename_i hk
    simp only [if_neg hk] at h ⊢
    left
    have := kidE_yes h h'
    rw [kidE_len, if_neg hk]
    omega
theorem kids_bad (kind : Nat) : ∀ (n : Nat) (o : Opn), o.2 = true → (kidsF kind n o).2.2 = true
  | 0, _, h => h
  | n + 1, o, h => by
    simp only [kidsF]
    refine kids_bad kind n _ ?_
    rcases hx : (kidF kind o).2.2 with _ | _
    · rw [(kid_not hx).1] at h; cases h
    · rfl
theorem kids_len {kind : Nat} : ∀ (n : Nat) (o : Opn), o.2 = false → ((kidsF kind n o).2.2 = false → ((kidsF kind n o).1.flatMap (kidP kind)).length + (kidsF kind n o).2.1.length = o.1.length) ∧ ((kidsF kind n o).2.2 = true → o.1.length < ((kidsF kind n o).1.flatMap (kidP kind)).length ∨ kind = 3 ∧ ∃ k ∈ (kidsF kind n o).1, k.name = [])
  | 0, o, h => ⟨fun _ => by simp [kidsF], fun h2 => by simp only [kidsF] at h2; rw [h] at h2; cases h2⟩
  | n + 1, o, h => by
    simp only [kidsF, List.flatMap_cons, List.length_append]
    rcases hb : (kidF kind o).2.2 with _ | _
    · obtain ⟨a1, a2⟩ := kid_not hb
      obtain ⟨i1, i2⟩ := kids_len n (kidF kind o).2 hb
      refine ⟨fun h2 => by have := i1 h2; omega, fun h2 => ?_⟩
      rcases i2 h2 with h3 | ⟨h3, k, hk, hn⟩
      · left; omega
      · exact .inr ⟨h3, k, .tail _ hk, hn⟩
    · refine ⟨fun h2 => ?_, fun _ => ?_⟩
      · rw [kids_bad kind n _ hb] at h2
        cases h2
      · rcases kid_yes hb h with h3 | ⟨h3, hn⟩
        · left; omega
        · exact .inr ⟨h3, _, .head _, hn⟩
/-- What is put again is whole: nothing failed, and nothing is left. -/
theorem put_whole {b : Bys} (hk : (parC b).1.kind = 1 ∨ (parC b).1.kind = 2 ∨ (parC b).1.kind = 3) (hn : (parC b).1.kind = 3 → ∀ k ∈ (parC b).1.kids, k.name ≠ []) (hp : putC (parC b).1 = b) : (parC b).2 = ([], false) := by
  cases b with
  | nil => simp [parC, opN, opT, beV] at hk
  | cons c r =>
    have ho : opN 1 (c :: r, false) = (c.toNat, (r, false)) := by simp [opN, opT, beV]
    unfold parC at *
    rw [ho] at hk hn hp ⊢
    simp only at hk hn hp ⊢
    split at hp
    · rename_i h1
      rw [if_pos h1]
    · rename_i h1
      rw [if_neg h1] at hn hk ⊢
      simp only at hn hk ⊢
      cases r with
      | nil =>
        have hb : opN 1 (([] : Bys), false) = (0, ([], true)) := rfl
        rw [hb] at hp
        have := congrArg List.length hp
        simp [putC, kidsF, beN_length, h1] at this
      | cons n r =>
        have ho2 : opN 1 (n :: r, false) = (n.toNat, (r, false)) := by simp [opN, opT, beV]
        rw [ho2] at hp hn ⊢
        simp only at hp hn ⊢
        obtain ⟨i1, i2⟩ := kids_len (kind := c.toNat) n.toNat (r, false) rfl
        have hlen := congrArg List.length hp
        simp only [putC, List.length_append, beN_length, List.length_cons, List.length_nil, if_neg h1] at hlen
        rcases hbad : (kidsF c.toNat n.toNat (r, false)).2.2 with _ | _
        · have h3 := i1 hbad
          simp only at h3
          have h4 : (kidsF c.toNat n.toNat (r, false)).2.1.length = 0 := by omega
          have h5 := List.length_eq_zero_iff.1 h4
          exact Prod.ext h5 hbad
        · rcases i2 hbad with h3 | ⟨h3, k, hk2, hn2⟩
          · simp only at h3; omega
          · exact absurd hn2 (hn h3 k hk2)
end Go.Proofs.YtdkonngkbbgcgaaGreatDoor

namespace Go.Eng
open Go.RowKit
set_option maxRecDepth 100000
/-- A hash as a value. -/
def hashV (h : List UInt8) : Value := .agg (h.map fun c => Value.int .u8 (c.toNat : Int)).toArray
theorem hashV_inj {a b : List UInt8} (h : hashV a = hashV b) : a = b := by
  unfold hashV at h
  injection h with h
  have h2 := congrArg Array.toList h
  simp only at h2
  have hi : ∀ x y : UInt8, Value.int .u8 (x.toNat : Int) = Value.int .u8 (y.toNat : Int) → x = y := fun x y e => by
    injection e with e1 e2
    exact UInt8.toNat_inj.1 (by omega)
  clear h
  induction a generalizing b with
  | nil => cases b with
    | nil => rfl
    | cons y b => simp at h2
  | cons x a ih => cases b with
    | nil => simp at h2
    | cons y b =>
      rw [List.map_cons, List.map_cons] at h2
      injection h2 with e1 e2
      rw [hi x y e1, ih e2]
/-- A map whose rows are these, in this order. -/
def mapAt (b : Nat) (A : List (List UInt8 × Value)) : Item := ⟨fun k => k = b, fun w => (A.map (·.1)).Nodup ∧ (∀ p ∈ A, p.1.length = 32) ∧ ∃ es clk, w.heap[b]? = some (.map es clk) ∧ es.toList.map (fun e => (e.key, e.val)) = A.map fun p => (hashV p.1, p.2)⟩
theorem mapAt_stable (ro : Nat → Prop) (b : Nat) (A : List (List UInt8 × Value)) : (mapAt b A).Stable ro := fun _ _ h ⟨h1, h2, es, clk, h3, h4⟩ => ⟨h1, h2, es, clk, (h b (.inr rfl)).trans h3, h4⟩
/-- What is found in rows. -/
theorem find_rows {P : Program} {k : TypeId} (KL : WideMaps.KeyLaw P k) (hkeys : ∀ h : List UInt8, h.length = 32 → ∃ l, keyOf P k (hashV h) = some l) {A : List (List UInt8 × Value)} {es : List MapEntry} (hn : (A.map (·.1)).Nodup) (hl : ∀ p ∈ A, p.1.length = 32) (he : es.map (fun e => (e.key, e.val)) = A.map fun p => (hashV p.1, p.2)) {h : List UInt8} (hh : h.length = 32) (w : World) :
    ((Instr.findKey k (hashV h) es).run P w = .ok none w ∧ A.lookup h = none) ∨ ∃ j v, (Instr.findKey k (hashV h) es).run P w = .ok (some (j, v)) w ∧ A.lookup h = some v ∧ A[j]? = some (h, v) := by
  obtain ⟨lk, hkey⟩ := hkeys h hh
  have hlen : es.length = A.length := by have := congrArg List.length he; simpa using this
  have hat : ∀ (j : Nat) (hj : j < es.length) (hj' : j < A.length), es[j].key = hashV A[j].1 ∧ es[j].val = A[j].2 := fun j hj hj' => by
    have := congrArg (fun l => l[j]?) he
    simp only [List.getElem?_map, List.getElem?_eq_getElem hj, List.getElem?_eq_getElem hj', Option.map_some, Option.some.injEq, Prod.mk.injEq] at this
    exact this
  have hall : ∀ e ∈ es, ∃ l, keyOf P k e.key = some l := fun e hm => by
    obtain ⟨j, hj, rfl⟩ := List.getElem_of_mem hm
    rw [(hat j hj (by omega)).1]
    exact hkeys _ (hl _ (List.getElem_mem _))
  rcases KL.find w hkey es hall with ⟨h1, h2⟩ | ⟨j, e, h1, h2, h3⟩
  · refine .inl ⟨h1, ?_⟩
    rw [List.lookup_eq_none_iff]
    intro p hp
    obtain ⟨j, hj, rfl⟩ := List.getElem_of_mem hp
    have h4 := h2 _ (List.getElem_mem (show j < es.length by omega))
    rw [(hat j (by omega) hj).1] at h4
    simp only [bne_iff_ne, ne_eq]
    exact fun e => h4 (by rw [e])
  · have hj : j < es.length := by
      rcases Nat.lt_or_ge j es.length with hj | hj
      · exact hj
      · rw [List.getElem?_eq_none hj] at h2; cases h2
    rw [List.getElem?_eq_getElem hj] at h2
    injection h2 with h2
    have ha := hat j hj (by omega)
    rw [h2] at ha
    have hk : A[j].1 = h := hashV_inj (ha.1.symm.trans h3)
    have hAj : A[j]? = some (h, e.val) := by
      rw [List.getElem?_eq_getElem (show j < A.length by omega), ha.2, ← hk]
    refine .inr ⟨j, e.val, h1, ?_, hAj⟩
    clear hk hat hall h1 h2 h3 ha hj hlen he hl
    induction A generalizing j with
    | nil => simp at hAj
    | cons a A ih =>
      rw [List.map_cons, List.nodup_cons] at hn
      cases j with
      | zero =>
        simp only [List.getElem?_cons_zero, Option.some.injEq] at hAj
        subst hAj
        simp [List.lookup]
      | succ j =>
        simp only [List.getElem?_cons_succ] at hAj
        have hm : h ∈ A.map (·.1) := List.mem_map.2 ⟨_, List.mem_of_getElem? hAj, rfl⟩
        have hne : (h == a.1) = false := by
          rw [beq_eq_false_iff_ne]
          exact fun e => hn.1 (e ▸ hm)
        obtain ⟨a1, a2⟩ := a
        simp only [List.lookup, hne]
        exact ih hn.2 j hAj
end Go.Eng

namespace Go.Eng
open Go.RowKit
set_option maxRecDepth 100000
variable {P : Program} {Q : Exit → Act → World → Prop} {N : Fm} {l : Slots} {H : World → Prop} {ops : Array Oper} {rest : List Oper} {w0 : World} {F : Nat → Prop} {m m' : List Item} {ty : TypeId} {pos : String} {after : Array Edge} {g : Option (Nat × Bool)} {d : Nat}
/-- The rows of a map in which something was put. -/
def insA (A : List (List UInt8 × Value)) (h : List UInt8) (v : Value) : List (List UInt8 × Value) :=
  if (A.lookup h).isSome then A.map (fun p => if p.1 = h then (h, v) else p) else A ++ [(h, v)]
theorem lookup_mem {A : List (List UInt8 × Value)} {h : List UInt8} : (A.lookup h).isSome = true ↔ h ∈ A.map (·.1) := by
  induction A with
  | nil => simp
  | cons a A ih =>
    obtain ⟨x, y⟩ := a
    by_cases e : h = x
    · subst e; simp [List.lookup]
    · have : (h == x) = false := beq_eq_false_iff_ne.2 e
      simp only [List.lookup, this, ih, List.map_cons, List.mem_cons, e, false_or]
theorem insA_keys (A : List (List UInt8 × Value)) (h : List UInt8) (v : Value) : (insA A h v).map (·.1) = if h ∈ A.map (·.1) then A.map (·.1) else A.map (·.1) ++ [h] := by
  unfold insA
  by_cases hm : h ∈ A.map (·.1)
  · rw [if_pos (lookup_mem.2 hm), if_pos hm, List.map_map]
    refine List.map_congr_left fun p _ => ?_
    simp only [Function.comp]
    split
    · rename_i e; exact e.symm
    · rfl
  · rw [if_neg (fun hs => hm (lookup_mem.1 hs)), if_neg hm, List.map_append]; rfl
theorem insA_lookup (A : List (List UInt8 × Value)) (h : List UInt8) (v : Value) (x : List UInt8) : (insA A h v).lookup x = if x = h then some v else A.lookup x := by
  unfold insA
  split
  · rename_i hs
    have hm := lookup_mem.1 hs
    clear hs
    induction A with
    | nil => simp at hm
    | cons a A ih =>
      obtain ⟨y, u⟩ := a
      by_cases e : y = h
      · subst e
        simp only [List.map_cons, if_true, List.lookup]
        by_cases e2 : x = y
        · subst e2; simp
        · have : (x == y) = false := beq_eq_false_iff_ne.2 e2
          simp only [this, if_neg e2]
          by_cases hm2 : y ∈ A.map (·.1)
          · rw [ih hm2, if_neg e2]
          · congr 1
            conv => rhs; rw [← List.map_id A]
            refine List.map_congr_left fun p hp => ?_
            rw [if_neg (fun e3 => hm2 (List.mem_map.2 ⟨p, hp, e3⟩))]; rfl
      · simp only [List.map_cons, if_neg e, List.lookup]
        have hm2 : h ∈ A.map (·.1) := by
          rcases List.mem_cons.1 hm with h1 | h1
          · exact absurd h1.symm e
          · exact h1
        by_cases e2 : x = y
        · subst e2; simp [e]
        · have : (x == y) = false := beq_eq_false_iff_ne.2 e2
          simp only [this]
          exact ih hm2
  · rename_i hs
    have hn : A.lookup h = none := by
      cases e : A.lookup h with
      | none => rfl
      | some _ => rw [e] at hs; exact absurd rfl hs
    clear hs
    induction A with
    | nil =>
      by_cases e : x = h
      · subst e; simp [List.lookup]
      · have : (x == h) = false := beq_eq_false_iff_ne.2 e
        simp [List.lookup, this, if_neg e]
    | cons a A ih =>
      obtain ⟨y, u⟩ := a
      by_cases e1 : h = y
      · subst e1; simp [List.lookup] at hn
      · have hb : (h == y) = false := beq_eq_false_iff_ne.2 e1
        simp only [List.lookup, hb] at hn
        by_cases e2 : x = y
        · subst e2
          simp only [List.cons_append, List.lookup, BEq.rfl]
          rw [if_neg (fun e => e1 e.symm)]
        · have : (x == y) = false := beq_eq_false_iff_ne.2 e2
          simp only [List.cons_append, List.lookup, this]
          exact ih hn
theorem o_makemap {T : TypeId} (hok : okOp N l (.makeMap T none) d = true) : HO P ⟨some d, .makeMap T none, ty, pos, after, g⟩ Q N l (Hp w0 F m) (α := { b : Nat // w0.heap.size ≤ b }) (fun b => (d, .map (some b.1)) :: l) (fun b => Hp w0 F (mapAt b.1 [] :: m)) :=
  o_mem (val := fun b : { b : Nat // w0.heap.size ≤ b } => .map (some b.1)) hok (fun w hw => by
    refine ⟨⟨w.heap.size, hw.fr.size⟩, w.alloc (.map #[] 0), ?_, (hw.alloc (.map #[] 0)).imp (fun k h => h) (fun h => ⟨.nil, (fun _ h => nomatch h), #[], 0, h, rfl⟩) (mapAt_stable _ _ _)⟩
    simp [execOp, Instr.makeMap, newObj, Sem.run, Sem.run_bind])
theorem v_lenmap {x : Operand} {T k e : TypeId} {b : Nat} {A : List (List UInt8 × Value)} (hx : evO l x = some (.map (some b))) (hT : P.underlying T = some (.map k e)) (hm : mapAt b A ∈ m) : OV P (.call ⟨.builtin .len, #[x], #[T]⟩) ty l (Hp w0 F m) (.int .i64 (A.length : Nat)) := ov fun _ _ _ w hw => by
  obtain ⟨-, -, es, clk, h1, h2⟩ := (hw.item _ hm).1
  have hlen : es.size = A.length := by have := congrArg List.length h2; simpa using this
  have hg : (getObj b).run P w = .ok (.map es clk) w := by simp [getObj, Sem.run, h1]
  simp [execOp, resolve, invoke, builtin, ev_of hx, Builtin.len_, run_underlying hT w, goInt, hg, hlen]
section look
variable {x y z : Operand} {T k e : TypeId} {b : Nat} {A : List (List UInt8 × Value)} {h : List UInt8} {zv v : Value}
theorem look_run (KL : WideMaps.KeyLaw P k) (hkeys : ∀ h : List UInt8, h.length = 32 → ∃ q, keyOf P k (hashV h) = some q) (hT : P.underlying T = some (.map k e)) (hz : (P.info? e).bind (·.zero) = some zv) (hh : h.length = 32) (c : Bool) {w : World} (hp : (mapAt b A).prop w) :
    (Instr.lookup T (.map (some b)) (hashV h) c).run P w = .ok (if c then .tuple #[(A.lookup h).getD zv, .bool (A.lookup h).isSome] else (A.lookup h).getD zv) w := by
  obtain ⟨h1, h2, es, clk, h3, h4⟩ := hp
  have hg : (getObj b).run P w = .ok (.map es clk) w := by simp [getObj, Sem.run, h3]
  obtain ⟨lk, hkey⟩ := hkeys h hh
  have hc := KL.check w es.isEmpty hkey
  have hzr : (zeroValue e).run P w = .ok zv w := by
    cases hq : P.info? e with
    | none => simp [hq] at hz
    | some i =>
      have hz' : i.zero = some zv := by simpa [hq] using hz
      simp [zeroValue, typeInfo, hq, hz']
  simp only [Instr.lookup]
  simp only [Sem.run_bind, run_underlying hT w, Result.andThen_ok, hg]
  simp only [Sem.run_pure, Sem.run_bind, Result.andThen_ok, hc]
  rcases find_rows KL hkeys h1 h2 h4 hh w with ⟨e1, e2⟩ | ⟨j, u, e1, e2, -⟩
  · simp only [e1, Result.andThen_ok, e2, Option.getD_none, Option.isSome_none]
    simp only [Sem.run_bind, hzr, Result.andThen_ok, Sem.run_pure]
  · simp only [e1, Result.andThen_ok, e2, Option.getD_some, Option.isSome_some, Sem.run_pure, Sem.run_bind]
theorem v_lookK (KL : WideMaps.KeyLaw P k) (hkeys : ∀ h : List UInt8, h.length = 32 → ∃ q, keyOf P k (hashV h) = some q) (hx : evO l x = some (.map (some b))) (hy : evO l y = some (hashV h)) (hT : P.underlying T = some (.map k e)) (hz : (P.info? e).bind (·.zero) = some zv) (hh : h.length = 32) (hm : mapAt b A ∈ m) :
    OV P (.lookup T x y true) ty l (Hp w0 F m) (.tuple #[(A.lookup h).getD zv, .bool (A.lookup h).isSome]) := ov fun _ _ _ w hw => by
  have := look_run KL hkeys hT hz hh true (hw.item _ hm).1
  simp only [execOp, ev_of hx, ev_of hy, Sem.run_bind, this]; rfl
theorem v_lookK1 (KL : WideMaps.KeyLaw P k) (hkeys : ∀ h : List UInt8, h.length = 32 → ∃ q, keyOf P k (hashV h) = some q) (hx : evO l x = some (.map (some b))) (hy : evO l y = some (hashV h)) (hT : P.underlying T = some (.map k e)) (hz : (P.info? e).bind (·.zero) = some zv) (hh : h.length = 32) (hm : mapAt b A ∈ m) :
    OV P (.lookup T x y false) ty l (Hp w0 F m) ((A.lookup h).getD zv) := ov fun _ _ _ w hw => by
  have := look_run KL hkeys hT hz hh false (hw.item _ hm).1
  simp only [execOp, ev_of hx, ev_of hy, Sem.run_bind, this]; rfl
theorem mapup_run (KL : WideMaps.KeyLaw P k) (hkeys : ∀ h : List UInt8, h.length = 32 → ∃ q, keyOf P k (hashV h) = some q) (hT : P.underlying T = some (.map k e)) (hh : h.length = 32) {w : World} (hw : Hp w0 F (mapAt b A :: m) w) :
    ∃ w', (Instr.mapUpdate T (.map (some b)) (hashV h) v).run P w = .ok () w' ∧ Hp w0 F (mapAt b (insA A h v) :: m) w' := by
  obtain ⟨h1, h2, es, clk, h3, h4⟩ := (hw.item _ (.head _)).1
  have hg : (getObj b).run P w = .ok (.map es clk) w := by simp [getObj, Sem.run, h3]
  have hlt : b < w.heap.size := (Array.getElem?_eq_some_iff.1 h3).1
  have hset : ∀ o, (setObj b o).run P w = .ok () (w.putObj b o) := fun o => by simp [setObj, Sem.run, h3, World.putObj]
  obtain ⟨lk, hkey⟩ := hkeys h hh
  have hc := KL.check w false hkey
  have hw1 : Hp w0 F (pt b (.map es clk) :: m) w := hw.imp (fun _ h => h) (fun _ => h3) (pt_stable _ _ _)
  have hlen : es.toList.length = A.length := by have := congrArg List.length h4; simpa using this
  have hins : ∀ p ∈ insA A h v, p.1.length = 32 := fun p hp => by
    unfold insA at hp
    split at hp
    · obtain ⟨q, hq, rfl⟩ := List.mem_map.1 hp
      split
      · exact hh
      · exact h2 q hq
    · rcases List.mem_append.1 hp with hp | hp
      · exact h2 p hp
      · rw [List.mem_singleton] at hp; subst hp; exact hh
  have hnd : ((insA A h v).map (·.1)).Nodup := by
    rw [insA_keys]
    split
    · exact h1
    · rename_i hm
      refine List.nodup_append.2 ⟨h1, List.nodup_cons.2 ⟨by simp, .nil⟩, fun a ha c hc e => ?_⟩
      rw [List.mem_singleton] at hc
      subst hc; subst e; exact hm ha
  simp only [Instr.mapUpdate]
  simp only [Sem.run_bind, run_underlying hT w, Result.andThen_ok, hg]
  simp only [Sem.run_pure, Sem.run_bind, Result.andThen_ok, hc]
  rcases find_rows KL hkeys h1 h2 h4 hh w with ⟨e1, e2⟩ | ⟨j, u, e1, e2, e3⟩
  · simp only [e1, Result.andThen_ok, hset]
    refine ⟨_, rfl, (hw1.put _).imp (fun _ h => h) (fun hp => ⟨hnd, hins, _, _, hp, ?_⟩) (mapAt_stable _ _ _)⟩
    have : insA A h v = A ++ [(h, v)] := by unfold insA; rw [if_neg (by rw [e2]; simp)]
    rw [this]
    simp [h4]
  · have hj : j < es.size := by
      have := (List.getElem?_eq_some_iff.1 e3).1
      rw [← hlen] at this; simpa using this
    have hkj : es[j].key = hashV h := by
      have := congrArg (fun l => l[j]?) h4
      simp only [List.getElem?_map, e3, Option.map_some] at this
      have h5 : es.toList[j]? = some es[j] := by simp [hj]
      rw [h5] at this
      simp only [Option.map_some, Option.some.injEq, Prod.mk.injEq] at this
      exact this.1
    have hst : (Instr.keyThatStays (((es[j]?).map (·.key)).getD (hashV h)) (hashV h)).run P w = .ok (hashV h) w := by
      rw [Array.getElem?_eq_getElem hj, Option.map_some, Option.getD_some, hkj]
      exact KL.stays w hkey
    simp only [e1, Result.andThen_ok, Sem.run_bind, hst, hset]
    refine ⟨_, rfl, (hw1.put _).imp (fun _ h => h) (fun hp => ⟨hnd, hins, _, _, hp, ?_⟩) (mapAt_stable _ _ _)⟩
    have : insA A h v = A.map (fun p => if p.1 = h then (h, v) else p) := by unfold insA; rw [if_pos (by rw [e2]; simp)]
    rw [this]
    apply List.ext_getElem?
    intro i
    have hi4 := congrArg (fun l => l[i]?) h4
    simp only [List.getElem?_map] at hi4 ⊢
    rw [Array.getElem?_toList, Array.getElem?_modify]
    by_cases hij : j = i
    · subst hij
      rw [if_pos rfl, e3, Array.getElem?_eq_getElem hj]
      simp
    · rw [if_neg hij, ← Array.getElem?_toList, hi4]
      cases hA : A[i]? with
      | none => rfl
      | some p =>
        simp only [Option.map_some]
        have hne : p.1 ≠ h := fun e => by
          have hi := (List.getElem?_eq_some_iff.1 hA).1
          have hj2 := (List.getElem?_eq_some_iff.1 e3).1
          have h6 : (A.map (·.1))[i]'(by simpa using hi) = (A.map (·.1))[j]'(by simpa using hj2) := by
            simp only [List.getElem_map]
            rw [(List.getElem?_eq_some_iff.1 hA).2, (List.getElem?_eq_some_iff.1 e3).2]
            exact e
          rcases Nat.lt_or_gt_of_ne hij with hlt2 | hlt2
          · exact List.pairwise_iff_getElem.1 h1 j i (by simpa using hj2) (by simpa using hi) hlt2 h6.symm
          · exact List.pairwise_iff_getElem.1 h1 i j (by simpa using hi) (by simpa using hj2) hlt2 h6
        rw [if_neg hne]
theorem o_mapup (KL : WideMaps.KeyLaw P k) (hkeys : ∀ h : List UInt8, h.length = 32 → ∃ q, keyOf P k (hashV h) = some q) (hok : (noSel (.mapUpdate T x y z) && known l (.mapUpdate T x y z)) = true) (hx : evO l x = some (.map (some b))) (hy : evO l y = some (hashV h)) (hz : evO l z = some v) (hT : P.underlying T = some (.map k e)) (hh : h.length = 32) :
    HO P ⟨none, .mapUpdate T x y z, ty, pos, after, g⟩ Q N l (Hp w0 F (mapAt b A :: m)) (α := Unit) (fun _ => l) (fun _ => Hp w0 F (mapAt b (insA A h v) :: m)) :=
  o_skip hok (fun w hw => by
    obtain ⟨w', h1, h2⟩ := mapup_run (v := v) KL hkeys hT hh hw
    refine ⟨(), w', ?_, h2⟩
    simp only [execOp, ev_of hx, ev_of hy, ev_of hz, Sem.run_bind, h1]; rfl)
end look
end Go.Eng

namespace Go.Proofs.YtdkonngkbbgcgaaGreatDoor
set_option maxRecDepth 100000
/-- How high a chunk is. -/
def hgtF (kind : Nat) (ks : List CKid) : Nat := if kind = 2 ∨ kind = 3 then ks.foldl (fun n k => max n (k.height + 1)) 1 else 0
/-- How many bytes of a file it has. -/
def sizeF (c : Chk) : Nat := if c.kind = 2 then (c.kids.map (·.size)).sum else if c.kind = 3 then 0 else c.data.length
/-- A child's name, beside the one ahead of it. -/
def nameOk (ks : List CKid) (i : Nat) (k : CKid) : Prop := k.name ≠ [] ∧ k.name.length ≤ 16 ∧ ∀ j p, i = j + 1 → ks[j]? = some p → Op.bytesLess p.name k.name = true
def MayC (c : Chk) : Prop := hgtF c.kind c.kids ≤ 255 ∧ c.kids.length ≤ 6 ∧
  ((c.kind = 1 ∧ c.kids = [] ∧ c.data.length ≤ 240) ∨ (c.kind = 2 ∧ (∀ k ∈ c.kids, k.name = [] ∧ k.dir = false) ∧ c.kids ≠ [] ∧ c.data = [] ∧ sizeF c < 4294967296) ∨ (c.kind = 3 ∧ (∀ i k, c.kids[i]? = some k → nameOk c.kids i k) ∧ c.data = []))
open Classical in
noncomputable def mayC (c : Chk) : Bool := decide (MayC c)
theorem mayC_iff {c : Chk} : mayC c = true ↔ MayC c := by unfold mayC; simp
open Classical in
/-- The chunk of bytes. -/
noncomputable def chkF (b : Bys) : Option Chk := if mayC (parC b).1 = true ∧ putC (parC b).1 = b ∧ (parC b).2 = ([], false) then some (parC b).1 else none
noncomputable def ksF (l : List Bys) : List (Option (List Bys)) := l.map fun c => (chkF c).map fun k => k.kids.map (·.hash)
/-- Whether a stream may be. -/
noncomputable def mayF (x : Strm) : Bool := mayP (x.chunks.map shaF) (ksF x.chunks)
open Classical in
/-- The stream of bytes, or an error. -/
noncomputable def takeF (b : Bys) : Option Strm × Nat :=
  if b.length < 42 then (none, 3) else if sumOk b = false then (none, 12) else
  if (parF (b.take (b.length - 4))).2.2 = false ∧ mayF (parF (b.take (b.length - 4))).1 = true ∧ putF (parF (b.take (b.length - 4))).1 = b then (some (parF (b.take (b.length - 4))).1, 0) else (none, 3)
theorem put_len (x : Strm) (hr : x.root.length = 32) : 42 ≤ (putF x).length := by
  simp only [putF, bodyF, List.length_append, sum_length, beN_length, magicL, List.length_cons, List.length_nil, hr]
  omega
theorem put_body (x : Strm) : (putF x).take ((putF x).length - 4) = bodyF x := by
  have h : (putF x).length - 4 = (bodyF x).length := by rw [putF, List.length_append, sum_length]; omega
  rw [h, putF, List.take_left]
theorem back_one {x : Strm} (hm : mayF x = true) (hr : x.root.length = 32) (hn : x.chunks.length < 65536) (hc : ∀ c ∈ x.chunks, c.length < 65536) : takeF (putF x) = (some x, 0) := by
  have hl := put_len x hr
  unfold takeF
  rw [if_neg (by omega), if_neg (by rw [sum_put]; exact fun h => by cases h), put_body, par_body hr hn hc, if_pos ⟨rfl, hm, rfl⟩]
theorem take_sum {b : Bys} (h : (takeF b).2 = 0) : sumOk b = true := by
  unfold takeF at h
  split at h
  · cases h
  · split at h
    · cases h
    · rename_i h2
      simpa using h2
theorem take_ok {b : Bys} (h : (takeF b).2 = 0) : ∃ y, takeF b = (some y, 0) ∧ mayF y = true ∧ putF y = b ∧ y = (parF (b.take (b.length - 4))).1 := by
  unfold takeF at h ⊢
  split at h
  · cases h
  · rename_i h1
    rw [if_neg h1]
    split at h
    · cases h
    · rename_i h2
      rw [if_neg h2]
      split at h
      · rename_i h3
        rw [if_pos h3]
        exact ⟨_, rfl, h3.2.1, h3.2.2, rfl⟩
      · cases h
theorem take_none {b : Bys} (h : (takeF b).2 ≠ 0) : (takeF b).1 = none := by
  unfold takeF at h ⊢
  split
  · rfl
  · rename_i h1
    rw [if_neg h1] at h
    split
    · rfl
    · rename_i h2
      rw [if_neg h2] at h
      split
      · rename_i h3
        rw [if_pos h3] at h
        exact absurd rfl h
      · rfl
/-- One byte is another one: it is refused, and just then. -/
theorem back_change {x : Strm} (hm : mayF x = true) (hr : x.root.length = 32) (hn : x.chunks.length < 65536) (hc : ∀ c ∈ x.chunks, c.length < 65536) {i : Nat} (hi : i < (putF x).length) (d : UInt8) :
    ((takeF ((putF x).set i d)).2 = 0) ↔ d = (putF x)[i] := by
  have hs : (putF x).set i d = (putF x).take i ++ d :: (putF x).drop (i + 1) := by rw [List.set_eq_take_append_cons_drop, if_pos hi]
  have he : putF x = (putF x).take i ++ (putF x)[i] :: (putF x).drop (i + 1) := by rw [List.getElem_cons_drop, List.take_append_drop]
  have hl := put_len x hr
  constructor
  · intro h
    have h1 := take_sum h
    rw [hs] at h1
    have h2 := sum_put x
    rw [he] at h2
    exact (sum_one h2 (by rw [← he]; omega) h1).symm
  · rintro rfl
    rw [List.set_getElem_self, back_one hm hr hn hc]
/-! ### The stream that is known -/
def knownB : Bys := [1, 97, 98]
def knownS : Strm := ⟨shaF knownB, [knownB]⟩
theorem known_par : parC knownB = (⟨1, [97, 98], []⟩, ([], false)) := rfl
theorem known_may : mayC ⟨1, [97, 98], []⟩ = true := mayC_iff.2 ⟨by simp [hgtF], by simp, .inl ⟨rfl, rfl, by simp⟩⟩
theorem known_chk : chkF knownB = some ⟨1, [97, 98], []⟩ := by
  unfold chkF
  rw [known_par, if_pos ⟨known_may, rfl, rfl⟩]
theorem known_mayF : mayF knownS = true := by
  unfold mayF ksF knownS
  simp only [List.map_cons, List.map_nil, known_chk, Option.map_some]
  simp [mayP, allFrom, kidsOk]
theorem known_len : (putF knownS).length = 47 := by
  simp only [putF, bodyF, knownS, knownB, List.length_append, sum_length, beN_length, magicL, List.length_cons, List.length_nil, chP, List.flatMap_cons, List.flatMap_nil, shaF, hashL_length]
theorem known_magic : (putF knownS).take 4 = magicL := by
  simp only [putF, bodyF, List.append_assoc]
  rfl
theorem known_back : takeF (putF knownS) = (some knownS, 0) := back_one known_mayF rfl (by decide) (by simp [knownS, knownB])
theorem known_last (c : UInt8) : (takeF ((putF knownS).set 46 c)).2 = 0 ↔ c = (putF knownS)[46]'(by rw [known_len]; decide) := back_change known_mayF rfl (by decide) (by simp [knownS, knownB]) _ c
theorem known_other (c : UInt8) (h : c ≠ (putF knownS)[46]'(by rw [known_len]; decide)) : (takeF ((putF knownS).set 46 c)).2 = 12 := by
  have hl : ((putF knownS).set 46 c).length = 47 := by rw [List.length_set, known_len]
  have hs : sumOk ((putF knownS).set 46 c) = false := by
    cases hb : sumOk ((putF knownS).set 46 c) with
    | false => rfl
    | true =>
      exfalso
      have hi : 46 < (putF knownS).length := by rw [known_len]; decide
      have e1 : (putF knownS).set 46 c = (putF knownS).take 46 ++ c :: (putF knownS).drop (46 + 1) := by rw [List.set_eq_take_append_cons_drop, if_pos hi]
      have e2 : putF knownS = (putF knownS).take 46 ++ (putF knownS)[46] :: (putF knownS).drop (46 + 1) := by rw [List.getElem_cons_drop, List.take_append_drop]
      have h2 := sum_put knownS
      rw [e2] at h2
      rw [e1] at hb
      exact h (sum_one h2 (by rw [← e2, known_len]; decide) hb).symm
  unfold takeF
  rw [hl, if_neg (by decide), if_pos hs]
/-! ### Lengths -/
theorem chF_bound : ∀ (n : Nat) (o : Opn), (chP (chF n o).1).length ≤ (if o.2 then 0 else o.1.length + 2)
  | 0, o => by simp [chF, chP]
  | n + 1, o => by
    obtain ⟨r, bad⟩ := o
    cases bad with
    | true => simp [chF, chP]
    | false =>
      simp only [chF, if_neg Bool.false_ne_true]
      have ih := chF_bound n (opT (opN 2 (r, false)).1 (opN 2 (r, false)).2).2
      have e : ∀ (c : Bys) l, (chP (c :: l)).length = 2 + c.length + (chP l).length := fun c l => by simp [chP, beN_length, Nat.add_assoc]
      rw [e]
      have h2 := opT_len (opN 2 (r, false)).1 (opN 2 (r, false)).2
      rcases hb : (opT (opN 2 (r, false)).1 (opN 2 (r, false)).2).2.2 with _ | _
      · rw [hb, if_neg Bool.false_ne_true] at ih
        obtain ⟨c1, c2, c3, c4⟩ := opT_not hb
        obtain ⟨d1, d2, d3, d4⟩ := opT_not (n := 2) (o := (r, false)) c1
        have d5 : (opN 2 (r, false)).2.1 = r.drop 2 := d4
        rw [c4, d5] at ih
        rw [d5] at c2
        simp only [List.length_drop] at ih c2 d2
        omega
      · rw [hb, if_pos rfl] at ih
        have hz : (opT (opN 2 (r, false)).1 (opN 2 (r, false)).2).1 = [] := by
          unfold opT at hb ⊢
          split
          · rfl
          · split
            · rfl
            · rename_i h5 h6
              rw [if_neg h5, if_neg h6] at hb
              cases hb
        rw [hz]
        simp only [List.length_nil]
        omega
theorem chP_count : ∀ (l : List Bys), 2 * l.length ≤ (chP l).length
  | [] => by simp [chP]
  | c :: l => by
    have := chP_count l
    have e : (chP (c :: l)).length = 2 + c.length + (chP l).length := by simp [chP, beN_length, Nat.add_assoc]
    rw [e, List.length_cons]; omega
theorem chP_mem : ∀ (l : List Bys) (c : Bys), c ∈ l → c.length ≤ (chP l).length
  | [], _, h => by cases h
  | x :: l, c, h => by
    have e : (chP (x :: l)).length = 2 + x.length + (chP l).length := by simp [chP, beN_length, Nat.add_assoc]
    rw [e]
    rcases List.mem_cons.1 h with rfl | h
    · omega
    · have := chP_mem l c h; omega
end Go.Proofs.YtdkonngkbbgcgaaGreatDoor

namespace Go.Proofs.YtdkonngkbbgcgaaGreatDoor
open Go.RowKit Go.Eng
set_option maxRecDepth 100000
theorem ends_calls (e : Addr) (w : World) : CallsD Tryz.prog 42 #[.pointer (some e)] .returning w fun e u' w' => u' = .returning ∧ (∃ v, e = .returned v) ∧ Fr none' w w' := by
  refine callsD_of_wpS Tryz.func42 rfl fun c₀ cs hu => ?_
  apply wpS_seq
  apply wpS_region
  simp [wpOpsS, go_sem, recoverD, hu, Exit.thenS]
  apply wpS_seq
  apply wpS_region
  have hq : ∀ w, (eqGuard .neq 20 (.tmp 6) (.const .nilIface) .nilIface .nilIface).run Tryz.prog w = .ok () w := fun _ => rfl
  have hq2 : ∀ w, (binOp .neq 20 .nilIface .nilIface).run Tryz.prog w = .ok (.bool false) w := fun _ => rfl
  simp [wpOpsS, go_sem, hu, Exit.thenS, Act.eval, hq, hq2]
  refine wpS_cond (t := false) (by simp [Act.eval, Array.replicate]) ?_
  simp only [Bool.false_eq_true, if_false]
  refine wpS_of_wp (wp_skip ?_)
  cases c₀
  simp_all [bodyPostS, results]
  exact .refl _ _
end Go.Proofs.YtdkonngkbbgcgaaGreatDoor

namespace Go.Eng
open Go.RowKit
variable {P : Program} {Q : Exit → Act → World → Prop} {N : Fm} {l : Slots} {H S : World → Prop} {ops : Array Oper} {rest : List Oper} {ty : TypeId} {pos : String} {after : Array Edge} {g : Option (Nat × Bool)} {d t : Nat}
theorem v_cvB {P : Program} {l : Slots} {H : World → Prop} {ty S T : TypeId} {x : Operand} {c : UInt8} (hx : evO l x = some (.int .u8 (c.toNat : Int))) (hS : (P.underlying S).isSome = true) (hT : intK P T = some .u32) : OV P (.convert S T x) ty l H (w32 (BitVec.ofNat 32 c.toNat)) :=
  v_as (v_cv (n := c.toNat) hx hS hT (by have := c.toNat_lt; omega)) (by rw [show w32 (BitVec.ofNat 32 c.toNat) = .int .u32 ((BitVec.ofNat 32 c.toNat).toNat : Int) from rfl, BitVec.toNat_ofNat, Nat.mod_eq_of_lt (by have := c.toNat_lt; omega)])
theorem lAv {op : Op} {v : Value} (hok : okL ops N l g op d = true) (k : HL P ops Q N rest ((d, v) :: l) H) (hv : OV P op ty l H v := by first | exact v_move rfl | exact v_assign rfl | exact v_bt rfl rfl | exact v_extract rfl rfl | exact v_field0 rfl rfl | exact v_field rfl rfl | exact v_lens rfl rfl | exact v_lenstr rfl rfl | exact v_nt rfl | exact v_load1p rfl rfl (by repeat first | exact .head _ | apply List.Mem.tail) | exact v_loadn rfl rfl (by repeat first | exact .head _ | apply List.Mem.tail) rfl | exact v_loadp rfl rfl (by repeat first | exact .head _ | apply List.Mem.tail) rfl | exact v_loada rfl rfl (by repeat first | exact .head _ | apply List.Mem.tail) | exact v_eqb rfl rfl rfl | exact v_slA rfl rfl rfl | exact v_builds rfl rfl rfl rfl rfl | exact v_eqs rfl rfl | exact v_nc rfl | exact v_caps rfl rfl | exact v_eqpn rfl rfl rfl | exact v_nepn rfl rfl rfl | exact v_neps rfl rfl rfl rfl | ((first | refine v_bn rfl rfl ?_ | refine v_is1 rfl rfl rfl ?_ | refine v_ia1 rfl rfl rfl ?_ | refine v_sa rfl rfl rfl ?_ | refine v_sF rfl rfl rfl ?_ | refine v_sT rfl rfl rfl ?_ | refine v_sFT rfl rfl rfl rfl ?_ | refine v_lF rfl rfl rfl rfl ?_ | refine v_is rfl rfl rfl ?_ | refine v_ia rfl rfl rfl ?_ | refine v_lT rfl rfl rfl rfl ?_ | refine v_cv rfl rfl rfl ?_ | refine v_slLH rfl rfl rfl rfl rfl ?_ | refine v_sl3 rfl rfl rfl rfl rfl ?_); first | omega | assumption) | exact v_pT rfl rfl (by first | omega | assumption | (simp; done) | exact fun h => h (by assumption) | fail) | exact v_pF rfl rfl (by first | omega | assumption | (simp; done) | exact fun h => h (by assumption) | fail) | exact v_pickB rfl rfl rfl) : HL P ops Q N (⟨some d, op, ty, pos, after, g⟩ :: rest) l H := l_w hok hv k
theorem lWv {op : Op} {v : Value} (hok : okL ops N l g op d = true) (k : HL P ops Q N rest ((d, v) :: l) H) (hv : OV P op ty l H v := by first | exact v_xorW rfl rfl | exact v_andWC rfl rfl (by decide) | exact v_andW rfl rfl | exact v_orW rfl rfl | exact v_addW32 rfl rfl | exact v_notW rfl | exact v_shrWC rfl rfl (by decide) | exact v_shlWC rfl rfl (by decide) | exact v_shrW rfl rfl (by omega) | exact v_shlW rfl rfl (by omega) | exact v_cvB rfl rfl rfl | exact v_move rfl | exact v_assign rfl | exact v_bt rfl rfl | exact v_extract rfl rfl | exact v_field0 rfl rfl | exact v_field rfl rfl | exact v_lens rfl rfl | exact v_lenstr rfl rfl | exact v_nt rfl | exact v_load1p rfl rfl (by repeat first | exact .head _ | apply List.Mem.tail) | exact v_loadn rfl rfl (by repeat first | exact .head _ | apply List.Mem.tail) rfl | exact v_loadp rfl rfl (by repeat first | exact .head _ | apply List.Mem.tail) rfl | exact v_loada rfl rfl (by repeat first | exact .head _ | apply List.Mem.tail) | exact v_eqb rfl rfl rfl | exact v_slA rfl rfl rfl | exact v_builds rfl rfl rfl rfl rfl | exact v_eqs rfl rfl | exact v_nc rfl | exact v_caps rfl rfl | exact v_eqpn rfl rfl rfl | exact v_nepn rfl rfl rfl | exact v_neps rfl rfl rfl rfl | ((first | refine v_bn rfl rfl ?_ | refine v_is1 rfl rfl rfl ?_ | refine v_ia1 rfl rfl rfl ?_ | refine v_sa rfl rfl rfl ?_ | refine v_sF rfl rfl rfl ?_ | refine v_sT rfl rfl rfl ?_ | refine v_sFT rfl rfl rfl rfl ?_ | refine v_lF rfl rfl rfl rfl ?_ | refine v_is rfl rfl rfl ?_ | refine v_ia rfl rfl rfl ?_ | refine v_lT rfl rfl rfl rfl ?_ | refine v_cv rfl rfl rfl ?_ | refine v_slLH rfl rfl rfl rfl rfl ?_ | refine v_sl3 rfl rfl rfl rfl rfl ?_); first | omega | assumption) | exact v_pT rfl rfl (by first | omega | assumption | (simp; done) | exact fun h => h (by assumption) | fail) | exact v_pF rfl rfl (by first | omega | assumption | (simp; done) | exact fun h => h (by assumption) | fail) | exact v_pickB rfl rfl rfl) : HL P ops Q N (⟨some d, op, ty, pos, after, g⟩ :: rest) l H := l_w hok hv k
theorem tT {b : Bool} {p : Prop} [h : Deci b p] {c : Operand} {x y : Code} (hc : evO l c = some (.bool b)) (hk : known1 l c = true) (k : HT P x Q N l H) (hp : p := by first | omega | assumption | (simp; done) | exact fun h => h (by assumption) | fail) : HT P (.cond c x y) Q N l H := t_T hc hk hp k
theorem tF {b : Bool} {p : Prop} [h : Deci b p] {c : Operand} {x y : Code} (hc : evO l c = some (.bool b)) (hk : known1 l c = true) (k : HT P y Q N l H) (hp : ¬ p := by first | omega | assumption | (simp; done) | exact fun h => h (by assumption) | fail) : HT P (.cond c x y) Q N l H := t_F hc hk hp k
theorem lT {b : Bool} {p : Prop} [h : DeciN b p] {op : Op} {dst : Option Nat} {g : Nat × Bool} (hd : (nth ops.toList g.1).bind (·.dst) = some d) (hg : get l d = some (.bool b)) (k : HL P ops Q N (⟨dst, op, ty, pos, after, some g⟩ :: rest) ((d, .bool true) :: l) H) (hp : p := by first | omega | assumption | (simp; done) | exact fun h => h (by assumption) | fail) : HL P ops Q N (⟨dst, op, ty, pos, after, some g⟩ :: rest) l H := l_T hd hg hp k
theorem lF {b : Bool} {p : Prop} [h : DeciN b p] {op : Op} {dst : Option Nat} {g : Nat × Bool} (hd : (nth ops.toList g.1).bind (·.dst) = some d) (hg : get l d = some (.bool b)) (k : HL P ops Q N (⟨dst, op, ty, pos, after, some g⟩ :: rest) ((d, .bool false) :: l) H) (hp : ¬ p := by first | omega | assumption | (simp; done) | exact fun h => h (by assumption) | fail) : HL P ops Q N (⟨dst, op, ty, pos, after, some g⟩ :: rest) l H := l_F hd hg hp k
theorem dAv {i : Nat} (E : List Nat) {n : Nat} {listed : Array Bool} {op : Op} {v : Value} (hp : pickL ops.toList listed.toList E l 0 ops.toList = some i) (hi : nth ops.toList i = some ⟨some d, op, ty, pos, after, g⟩) (hok : okL ops N l g op d = true) (k : HD P ops Q S t N n (listed.setIfInBounds i true) ((d, v) :: l) H)
    (hb : stepB ops t listed i = true := by kernel_rfl) (hS : ∀ w, H w → S w := by intro w h; first | exact h | exact Hp.sub h (.cons _ (.refl _)) | exact Hp.sub h (.cons _ (.cons _ (.refl _))) | exact Hp.sub h (.cons _ (.cons _ (.cons _ (.refl _)))) | exact Hp.sub h (.cons _ (.cons _ (.cons _ (.cons _ (.refl _))))) | exact Hp.sub h (.cons _ (.cons _ (.cons _ (.cons _ (.cons _ (.refl _)))))) | exact Hp.sub h (.cons _ (.cons _ (.cons _ (.cons _ (.cons _ (.cons _ (.refl _)))))))) (hv : OV P op ty l S v := by first | exact v_move rfl | exact v_assign rfl | exact v_bt rfl rfl | exact v_extract rfl rfl | exact v_field0 rfl rfl | exact v_field rfl rfl | exact v_lens rfl rfl | exact v_lenstr rfl rfl | exact v_nt rfl | exact v_load1p rfl rfl (by repeat first | exact .head _ | apply List.Mem.tail) | exact v_loadn rfl rfl (by repeat first | exact .head _ | apply List.Mem.tail) rfl | exact v_loadp rfl rfl (by repeat first | exact .head _ | apply List.Mem.tail) rfl | exact v_loada rfl rfl (by repeat first | exact .head _ | apply List.Mem.tail) | exact v_eqb rfl rfl rfl | exact v_slA rfl rfl rfl | exact v_builds rfl rfl rfl rfl rfl | exact v_eqs rfl rfl | exact v_nc rfl | exact v_caps rfl rfl | exact v_eqpn rfl rfl rfl | exact v_nepn rfl rfl rfl | exact v_neps rfl rfl rfl rfl | ((first | refine v_bn rfl rfl ?_ | refine v_is1 rfl rfl rfl ?_ | refine v_ia1 rfl rfl rfl ?_ | refine v_sa rfl rfl rfl ?_ | refine v_sF rfl rfl rfl ?_ | refine v_sT rfl rfl rfl ?_ | refine v_sFT rfl rfl rfl rfl ?_ | refine v_lF rfl rfl rfl rfl ?_ | refine v_is rfl rfl rfl ?_ | refine v_ia rfl rfl rfl ?_ | refine v_lT rfl rfl rfl rfl ?_ | refine v_cv rfl rfl rfl ?_ | refine v_slLH rfl rfl rfl rfl rfl ?_ | refine v_sl3 rfl rfl rfl rfl rfl ?_); first | omega | assumption) | exact v_pT rfl rfl (by first | omega | assumption | (simp; done) | exact fun h => h (by assumption) | fail) | exact v_pF rfl rfl (by first | omega | assumption | (simp; done) | exact fun h => h (by assumption) | fail) | exact v_pickB rfl rfl rfl) : HD P ops Q S t N (n + 1) listed l H := d_w E hp hi hok hb hS hv k
theorem dWv {i : Nat} (E : List Nat) {n : Nat} {listed : Array Bool} {op : Op} {v : Value} (hp : pickL ops.toList listed.toList E l 0 ops.toList = some i) (hi : nth ops.toList i = some ⟨some d, op, ty, pos, after, g⟩) (hok : okL ops N l g op d = true) (k : HD P ops Q S t N n (listed.setIfInBounds i true) ((d, v) :: l) H)
    (hb : stepB ops t listed i = true := by kernel_rfl) (hS : ∀ w, H w → S w := by intro w h; first | exact h | exact Hp.sub h (.cons _ (.refl _)) | exact Hp.sub h (.cons _ (.cons _ (.refl _))) | exact Hp.sub h (.cons _ (.cons _ (.cons _ (.refl _)))) | exact Hp.sub h (.cons _ (.cons _ (.cons _ (.cons _ (.refl _))))) | exact Hp.sub h (.cons _ (.cons _ (.cons _ (.cons _ (.cons _ (.refl _)))))) | exact Hp.sub h (.cons _ (.cons _ (.cons _ (.cons _ (.cons _ (.cons _ (.refl _)))))))) (hv : OV P op ty l S v := by first | exact v_xorW rfl rfl | exact v_andWC rfl rfl (by decide) | exact v_andW rfl rfl | exact v_orW rfl rfl | exact v_addW32 rfl rfl | exact v_notW rfl | exact v_shrWC rfl rfl (by decide) | exact v_shlWC rfl rfl (by decide) | exact v_shrW rfl rfl (by omega) | exact v_shlW rfl rfl (by omega) | exact v_cvB rfl rfl rfl | exact v_move rfl | exact v_assign rfl | exact v_bt rfl rfl | exact v_extract rfl rfl | exact v_field0 rfl rfl | exact v_field rfl rfl | exact v_lens rfl rfl | exact v_lenstr rfl rfl | exact v_nt rfl | exact v_load1p rfl rfl (by repeat first | exact .head _ | apply List.Mem.tail) | exact v_loadn rfl rfl (by repeat first | exact .head _ | apply List.Mem.tail) rfl | exact v_loadp rfl rfl (by repeat first | exact .head _ | apply List.Mem.tail) rfl | exact v_loada rfl rfl (by repeat first | exact .head _ | apply List.Mem.tail) | exact v_eqb rfl rfl rfl | exact v_slA rfl rfl rfl | exact v_builds rfl rfl rfl rfl rfl | exact v_eqs rfl rfl | exact v_nc rfl | exact v_caps rfl rfl | exact v_eqpn rfl rfl rfl | exact v_nepn rfl rfl rfl | exact v_neps rfl rfl rfl rfl | ((first | refine v_bn rfl rfl ?_ | refine v_is1 rfl rfl rfl ?_ | refine v_ia1 rfl rfl rfl ?_ | refine v_sa rfl rfl rfl ?_ | refine v_sF rfl rfl rfl ?_ | refine v_sT rfl rfl rfl ?_ | refine v_sFT rfl rfl rfl rfl ?_ | refine v_lF rfl rfl rfl rfl ?_ | refine v_is rfl rfl rfl ?_ | refine v_ia rfl rfl rfl ?_ | refine v_lT rfl rfl rfl rfl ?_ | refine v_cv rfl rfl rfl ?_ | refine v_slLH rfl rfl rfl rfl rfl ?_ | refine v_sl3 rfl rfl rfl rfl rfl ?_); first | omega | assumption) | exact v_pT rfl rfl (by first | omega | assumption | (simp; done) | exact fun h => h (by assumption) | fail) | exact v_pF rfl rfl (by first | omega | assumption | (simp; done) | exact fun h => h (by assumption) | fail) | exact v_pickB rfl rfl rfl) : HD P ops Q S t N (n + 1) listed l H := d_w E hp hi hok hb hS hv k
theorem dno {i : Nat} (E : List Nat) {n : Nat} {listed : Array Bool} {op : Op} {g : Nat × Bool} (hp : pickL ops.toList listed.toList E l 0 ops.toList = some i) (hi : nth ops.toList i = some ⟨some d, op, ty, pos, after, some g⟩) (hok : okP ops N l g d = true) (k : HD P ops Q S t N n (listed.setIfInBounds i true) ((d, undef) :: l) H)
    (hb : stepB ops t listed i = true := by kernel_rfl) (hS : ∀ w, H w → S w := by intro w h; first | exact h | exact Hp.sub h (.cons _ (.refl _)) | exact Hp.sub h (.cons _ (.cons _ (.refl _))) | exact Hp.sub h (.cons _ (.cons _ (.cons _ (.refl _)))) | exact Hp.sub h (.cons _ (.cons _ (.cons _ (.cons _ (.refl _))))) | exact Hp.sub h (.cons _ (.cons _ (.cons _ (.cons _ (.cons _ (.refl _)))))) | exact Hp.sub h (.cons _ (.cons _ (.cons _ (.cons _ (.cons _ (.cons _ (.refl _)))))))) : HD P ops Q S t N (n + 1) listed l H := d_no E hp hi hok hb hS k
theorem dT {b : Bool} {p : Prop} [h : DeciN b p] {i n : Nat} {dst : Option Nat} {listed : Array Bool} {op : Op} {g : Nat × Bool} (E : List Nat) (h1 : pick ops listed E = some i) (hi : nth ops.toList i = some ⟨dst, op, ty, pos, after, some g⟩) (hd : (nth ops.toList g.1).bind (·.dst) = some d) (hg : get l d = some (.bool b)) (k : HD P ops Q S t N n listed ((d, .bool true) :: l) H) (hp : p := by first | omega | assumption | (simp; done) | exact fun h => h (by assumption) | fail) : HD P ops Q S t N n listed l H := d_T E h1 hi hd hg hp k
theorem dF {b : Bool} {p : Prop} [h : DeciN b p] {i n : Nat} {dst : Option Nat} {listed : Array Bool} {op : Op} {g : Nat × Bool} (E : List Nat) (h1 : pick ops listed E = some i) (hi : nth ops.toList i = some ⟨dst, op, ty, pos, after, some g⟩) (hd : (nth ops.toList g.1).bind (·.dst) = some d) (hg : get l d = some (.bool b)) (k : HD P ops Q S t N n listed ((d, .bool false) :: l) H) (hp : ¬ p := by first | omega | assumption | (simp; done) | exact fun h => h (by assumption) | fail) : HD P ops Q S t N n listed l H := d_F E h1 hi hd hg hp k
end Go.Eng
