/- Words of bytes as the program and the document put them together; bytes of numbers. -/
import Derived.Test.YtdkonngkbbgcgaaGreatDoorShap
namespace Go.Proofs.YtdkonngkbbgcgaaGreatDoor
set_option maxRecDepth 100000
def u8W (c : UInt8) : W32 := BitVec.ofNat 32 c.toNat
theorem u8W_toNat (c : UInt8) : (u8W c).toNat = c.toNat := by
  rw [u8W, BitVec.toNat_ofNat, Nat.mod_eq_of_lt (by have := c.toNat_lt; omega)]
/-- As the program does. -/
theorem word_or (a b c d : UInt8) : u8W a <<< 24 ||| u8W b <<< 16 ||| u8W c <<< 8 ||| u8W d = beW a b c d := by
  have ha := a.toNat_lt
  have hb := b.toNat_lt
  have hc := c.toNat_lt
  have hd := d.toNat_lt
  apply BitVec.eq_of_toNat_eq
  have sh : ∀ (x : UInt8) (k : Nat), k ≤ 24 → (u8W x <<< k).toNat = x.toNat * 2 ^ k := fun x k hk => by
    have hx := x.toNat_lt
    rw [BitVec.toNat_shiftLeft, u8W_toNat, Nat.shiftLeft_eq, Nat.mod_eq_of_lt]
    have h1 : 2 ^ k ≤ 2 ^ 24 := Nat.pow_le_pow_right (by decide) hk
    have h2 : x.toNat * 2 ^ k ≤ 255 * 2 ^ 24 := Nat.mul_le_mul (by omega) h1
    omega
  rw [BitVec.toNat_or, BitVec.toNat_or, BitVec.toNat_or, sh a 24 (by decide), sh b 16 (by decide), sh c 8 (by decide), u8W_toNat]
  have or_add : ∀ (x y k : Nat), y < 2 ^ k → x * 2 ^ k ||| y = x * 2 ^ k + y := fun x y k h => by
    have := Nat.shiftLeft_add_eq_or_of_lt h x
    rw [Nat.shiftLeft_eq] at this
    exact this.symm
  rw [or_add a.toNat (b.toNat * 2 ^ 16) 24 (by omega)]
  rw [show a.toNat * 2 ^ 24 + b.toNat * 2 ^ 16 = (a.toNat * 256 + b.toNat) * 2 ^ 16 by omega, or_add _ (c.toNat * 2 ^ 8) 16 (by omega)]
  rw [show (a.toNat * 256 + b.toNat) * 2 ^ 16 + c.toNat * 2 ^ 8 = (a.toNat * 65536 + b.toNat * 256 + c.toNat) * 2 ^ 8 by omega, or_add _ d.toNat 8 (by omega)]
  rw [beW, BitVec.toNat_ofNat, Nat.mod_eq_of_lt (by omega)]
  omega
/-- As the document does. -/
theorem word_sum (a b c d : UInt8) : ((a.toNat * 16777216 % 4294967296 + b.toNat * 65536 % 4294967296) % 4294967296 + c.toNat * 256 % 4294967296) % 4294967296 + d.toNat = (beW a b c d).toNat := by
  have ha := a.toNat_lt
  have hb := b.toNat_lt
  have hc := c.toNat_lt
  have hd := d.toNat_lt
  rw [beW, BitVec.toNat_ofNat]
  omega
/-- A number as so many bytes, the highest first. -/
def beN : Nat → Nat → List UInt8
  | 0, _ => []
  | w + 1, n => beN w (n / 256) ++ [UInt8.ofNat n]
theorem beN_length : ∀ (w n : Nat), (beN w n).length = w
  | 0, _ => rfl
  | w + 1, n => by rw [beN, List.length_append, beN_length w]; rfl
/-- The number of bytes. -/
def beV (l : List UInt8) : Nat := l.foldl (fun n c => n * 256 + c.toNat) 0
theorem beV_snoc (l : List UInt8) (c : UInt8) : beV (l ++ [c]) = beV l * 256 + c.toNat := by
  rw [beV, beV, List.foldl_append]; rfl
theorem beV_beN : ∀ (w n : Nat), n < 256 ^ w → beV (beN w n) = n
  | 0, n, h => by simp at h; subst h; rfl
  | w + 1, n, h => by
    rw [beN, beV_snoc, beV_beN w (n / 256) (by rw [Nat.pow_succ] at h; omega)]
    have : (UInt8.ofNat n).toNat = n % 256 := by simp
    rw [this]
    omega
theorem beV_aux : ∀ (l : List UInt8) (n k : Nat), n < 256 ^ k → l.foldl (fun n c => n * 256 + c.toNat) n < 256 ^ (k + l.length)
  | [], _, _, h => h
  | c :: l, n, k, h => by
    have hc := c.toNat_lt
    have := beV_aux l (n * 256 + c.toNat) (k + 1) (by rw [Nat.pow_succ]; omega)
    rw [List.foldl_cons, List.length_cons, show k + (l.length + 1) = k + 1 + l.length by omega]
    exact this
theorem beV_lt (l : List UInt8) : beV l < 256 ^ l.length := by
  have := beV_aux l 0 0 (by decide)
  rwa [Nat.zero_add] at this
end Go.Proofs.YtdkonngkbbgcgaaGreatDoor
