/- Operations on integers, said over natural numbers: lemmas for the calculus. Own work; no condition. -/
import Derived.Test.YtdkonngkbbgcgaaGreatDoorEng
import Derived.IntWalk
namespace Go.Eng
open Go.RowKit
variable {P : Program} {l : Slots} {H : World → Prop} {ty xt yt : TypeId} {x y : Operand} {a b : Nat}
theorem i64_in (n : Int) (h0 : -9223372036854775808 ≤ n) (h1 : n < 9223372036854775808) : IntKind.i64.wrap n = n := by
  simp [IntKind.wrap, IntKind.bits, IntKind.signed]; omega
theorem u64_in (n : Int) (h0 : 0 ≤ n) (h1 : n < 18446744073709551616) : IntKind.u64.wrap n = n := by
  simp [IntKind.wrap, IntKind.bits, IntKind.signed]; omega
theorem u8_in (n : Int) (h0 : 0 ≤ n) (h1 : n < 256) : IntKind.u8.wrap n = n := by
  simp [IntKind.wrap, IntKind.bits, IntKind.signed]; omega
theorem u32_in (n : Int) (h0 : 0 ≤ n) (h1 : n < 4294967296) : IntKind.u32.wrap n = n := by
  simp [IntKind.wrap, IntKind.bits, IntKind.signed]; omega
theorem u16_in (n : Int) (h0 : 0 ≤ n) (h1 : n < 65536) : IntKind.u16.wrap n = n := by
  simp [IntKind.wrap, IntKind.bits, IntKind.signed]; omega
/-- By whatever the value is: the value, said otherwise. -/
theorem v_as {op : Op} {v v' : Value} (h : OV P op ty l H v) (e : v = v') : OV P op ty l H v' := e ▸ h
theorem v_bin {op : BinOp} {vx vy v : Value} (hx : evO l x = some vx) (hy : evO l y = some vy) (h : ∀ w, (do eqGuard op xt x y vx vy; binOp op xt vx vy : Sem Value).run P w = .ok v w) : OV P (.binOp op xt x y yt) ty l H v := ov fun _ _ _ w _ => by
  simp only [execOp, ev_of hx, ev_of hy]
  rw [Sem.run_bind, h w]
  rfl
section i64
theorem v_add (hx : evO l x = some (.int .i64 a)) (hy : evO l y = some (.int .i64 b)) (h : a + b < 9223372036854775808) : OV P (.binOp .add xt x y yt) ty l H (.int .i64 (a + b : Nat)) :=
  v_as (v_bin hx hy fun _ => rfl) (by rw [i64_in] <;> first | rfl | omega)
theorem v_sub (hx : evO l x = some (.int .i64 a)) (hy : evO l y = some (.int .i64 b)) (h : b ≤ a) (h' : a < 9223372036854775808) : OV P (.binOp .sub xt x y yt) ty l H (.int .i64 (a - b : Nat)) :=
  v_as (v_bin hx hy fun _ => rfl) (by rw [i64_in] <;> first | (congr 1; omega) | omega)
theorem v_mul (hx : evO l x = some (.int .i64 a)) (hy : evO l y = some (.int .i64 b)) (h : a * b < 9223372036854775808) : OV P (.binOp .mul xt x y yt) ty l H (.int .i64 (a * b : Nat)) :=
  v_as (v_bin hx hy fun _ => rfl) (by
    have e : (a : Int) * (b : Int) = ((a * b : Nat) : Int) := by simp
    rw [e, i64_in] <;> omega)
theorem v_quo (hx : evO l x = some (.int .i64 a)) (hy : evO l y = some (.int .i64 b)) (h : 0 < b) (h' : a < 9223372036854775808) : OV P (.binOp .quo xt x y yt) ty l H (.int .i64 (a / b : Nat)) :=
  v_bin hx hy fun w => by
    have h0 : (b : Int) ≠ 0 := by omega
    have e : (a : Int).tdiv (b : Int) = ((a / b : Nat) : Int) := rfl
    have hl : a / b ≤ a := Nat.div_le_self a b
    have e' : IntKind.i64.wrap ((a / b : Nat) : Int) = ((a / b : Nat) : Int) := by
      generalize a / b = q at hl
      exact i64_in _ (by omega) (by omega)
    show ((binOp .quo xt (.int .i64 a) (.int .i64 b)).run P w) = _
    simp only [binOp, Op.intDiv, h0, if_false, e, e']
    rfl
theorem v_rem {q : IntKind} (hx : evO l x = some (.int q a)) (hy : evO l y = some (.int q b)) (h : 0 < b) : OV P (.binOp .rem xt x y yt) ty l H (.int q (a % b : Nat)) :=
  v_bin hx hy fun w => by
    have h0 : (b : Int) ≠ 0 := by omega
    have e : (a : Int).tmod (b : Int) = ((a % b : Nat) : Int) := rfl
    show ((binOp .rem xt (.int q a) (.int q b)).run P w) = _
    simp only [binOp, Op.intDiv, h0, if_false, e, ne_eq, not_true, if_false]
    rfl
end i64
/-! ### Bits of unsigned kinds -/
theorem ofInt_nat (n a : Nat) : BitVec.ofInt n (a : Int) = BitVec.ofNat n a := by simp
theorem u64_wrap_nat (n : Nat) : IntKind.u64.wrap (n : Int) = ((n % 18446744073709551616 : Nat) : Int) := by
  simp [IntKind.wrap, IntKind.bits, IntKind.signed]
theorem u8_wrap_nat (n : Nat) : IntKind.u8.wrap (n : Int) = ((n % 256 : Nat) : Int) := by
  simp [IntKind.wrap, IntKind.bits, IntKind.signed]
theorem u32_wrap_nat (n : Nat) : IntKind.u32.wrap (n : Int) = ((n % 4294967296 : Nat) : Int) := by
  simp [IntKind.wrap, IntKind.bits, IntKind.signed]
theorem v_and64 (hx : evO l x = some (.int .u64 a)) (hy : evO l y = some (.int .u64 b)) (ha : a < 18446744073709551616) : OV P (.binOp .and xt x y yt) ty l H (.int .u64 (a &&& b : Nat)) :=
  v_as (v_bin hx hy fun _ => rfl) (by
    show Value.int .u64 (IntKind.u64.wrap ((BitVec.ofInt 64 a &&& BitVec.ofInt 64 b).toNat)) = _
    rw [ofInt_nat, ofInt_nat, u64_wrap_nat, BitVec.toNat_and, BitVec.toNat_ofNat, BitVec.toNat_ofNat]
    congr 2
    have h1 : a % 2 ^ 64 = a := Nat.mod_eq_of_lt ha
    have h2 : (a &&& b % 2 ^ 64) = (a &&& b) := by
      have := Nat.and_mod_two_pow (a := a) (b := b) (n := 64)
      rw [h1] at this
      rw [← this]
      exact Nat.mod_eq_of_lt (Nat.lt_of_le_of_lt Nat.and_le_left ha)
    rw [h1, h2]
    exact Nat.mod_eq_of_lt (Nat.lt_of_le_of_lt Nat.and_le_left ha))
theorem v_or64 (hx : evO l x = some (.int .u64 a)) (hy : evO l y = some (.int .u64 b)) (ha : a < 18446744073709551616) (hb : b < 18446744073709551616) : OV P (.binOp .or xt x y yt) ty l H (.int .u64 (a ||| b : Nat)) :=
  v_as (v_bin hx hy fun _ => rfl) (by
    show Value.int .u64 (IntKind.u64.wrap ((BitVec.ofInt 64 a ||| BitVec.ofInt 64 b).toNat)) = _
    rw [ofInt_nat, ofInt_nat, u64_wrap_nat, BitVec.toNat_or, BitVec.toNat_ofNat, BitVec.toNat_ofNat]
    congr 2
    rw [Nat.mod_eq_of_lt (show a < 2 ^ 64 from ha), Nat.mod_eq_of_lt (show b < 2 ^ 64 from hb)]
    exact Nat.mod_eq_of_lt (Nat.or_lt_two_pow (n := 64) ha hb))
theorem v_xor64 (hx : evO l x = some (.int .u64 a)) (hy : evO l y = some (.int .u64 b)) (ha : a < 18446744073709551616) (hb : b < 18446744073709551616) : OV P (.binOp .xor xt x y yt) ty l H (.int .u64 (a ^^^ b : Nat)) :=
  v_as (v_bin hx hy fun _ => rfl) (by
    show Value.int .u64 (IntKind.u64.wrap ((BitVec.ofInt 64 a ^^^ BitVec.ofInt 64 b).toNat)) = _
    rw [ofInt_nat, ofInt_nat, u64_wrap_nat, BitVec.toNat_xor, BitVec.toNat_ofNat, BitVec.toNat_ofNat]
    congr 2
    rw [Nat.mod_eq_of_lt (show a < 2 ^ 64 from ha), Nat.mod_eq_of_lt (show b < 2 ^ 64 from hb)]
    exact Nat.mod_eq_of_lt (Nat.xor_lt_two_pow (n := 64) ha hb))
theorem v_andNot64 (hx : evO l x = some (.int .u64 a)) (hy : evO l y = some (.int .u64 b)) (ha : a < 18446744073709551616) (hb : b < 18446744073709551616) : OV P (.binOp .andNot xt x y yt) ty l H (.int .u64 (a &&& (18446744073709551615 ^^^ b) : Nat)) :=
  v_as (v_bin hx hy fun _ => rfl) (by
    show Value.int .u64 (IntKind.u64.wrap ((BitVec.ofInt 64 a &&& ~~~ BitVec.ofInt 64 b).toNat)) = _
    rw [ofInt_nat, ofInt_nat, u64_wrap_nat, BitVec.toNat_and, BitVec.toNat_not, BitVec.toNat_ofNat, BitVec.toNat_ofNat]
    congr 2
    rw [Nat.mod_eq_of_lt (show a < 2 ^ 64 from ha), Nat.mod_eq_of_lt (show b < 2 ^ 64 from hb)]
    have e : 2 ^ 64 - 1 - b = 18446744073709551615 ^^^ b := by
      have := BitVec.toNat_not (x := BitVec.ofNat 64 b)
      rw [BitVec.toNat_ofNat, Nat.mod_eq_of_lt (show b < 2 ^ 64 from hb)] at this
      rw [← this, ← BitVec.allOnes_xor, BitVec.toNat_xor, BitVec.toNat_ofNat, Nat.mod_eq_of_lt (show b < 2 ^ 64 from hb)]
      rfl
    rw [e]
    exact Nat.mod_eq_of_lt (Nat.lt_of_le_of_lt Nat.and_le_left ha))
theorem shift_run {op : BinOp} {k : IntKind} (hop : op = .shl ∨ op = .shr) (n : Int) (s : Nat) (w : World) :
    (do eqGuard op xt x y (.int k n) (.int .i64 s); binOp op xt (.int k n) (.int .i64 s) : Sem Value).run P w = .ok (match op with | .shl => .int k (k.wrap (n * 2 ^ (min s k.bits))) | _ => .int k (n.fdiv (2 ^ (min s k.bits)))) w := by
  have h0 : ¬ ((s : Int) < 0) := by omega
  rcases hop with rfl | rfl
  · show ((binOp .shl xt (.int k n) (.int .i64 s)).run P w) = _
    simp only [binOp, Op.shift, h0, if_false, Int.toNat_natCast]; rfl
  · show ((binOp .shr xt (.int k n) (.int .i64 s)).run P w) = _
    simp only [binOp, Op.shift, h0, if_false, Int.toNat_natCast]; rfl
theorem v_shl64 {s : Nat} (hx : evO l x = some (.int .u64 a)) (hy : evO l y = some (.int .i64 s)) (hs : s < 64) : OV P (.binOp .shl xt x y yt) ty l H (.int .u64 (a * 2 ^ s % 18446744073709551616 : Nat)) :=
  v_as (v_bin hx hy (shift_run (.inl rfl) _ _)) (by
    have e : min s IntKind.u64.bits = s := by show min s 64 = s; omega
    have e2 : ((a : Int) * 2 ^ s) = ((a * 2 ^ s : Nat) : Int) := by simp
    simp only [e, e2, u64_wrap_nat])
theorem v_shr64 {s : Nat} (hx : evO l x = some (.int .u64 a)) (hy : evO l y = some (.int .i64 s)) (hs : s < 64) : OV P (.binOp .shr xt x y yt) ty l H (.int .u64 (a / 2 ^ s : Nat)) :=
  v_as (v_bin hx hy (shift_run (.inr rfl) _ _)) (by
    have e : min s IntKind.u64.bits = s := by show min s 64 = s; omega
    have e2 : (2 : Int) ^ s = ((2 ^ s : Nat) : Int) := by simp
    have e3 : (a : Int).fdiv ((2 ^ s : Nat) : Int) = ((a / 2 ^ s : Nat) : Int) := by
      rw [Int.fdiv_eq_ediv_of_nonneg _ (Int.natCast_nonneg _)]; rfl
    simp only [e, e2, e3])
theorem v_shl8 {s : Nat} (hx : evO l x = some (.int .u8 a)) (hy : evO l y = some (.int .i64 s)) (hs : s < 8) : OV P (.binOp .shl xt x y yt) ty l H (.int .u8 (a * 2 ^ s % 256 : Nat)) :=
  v_as (v_bin hx hy (shift_run (.inl rfl) _ _)) (by
    have e : min s IntKind.u8.bits = s := by show min s 8 = s; omega
    have e2 : ((a : Int) * 2 ^ s) = ((a * 2 ^ s : Nat) : Int) := by simp
    simp only [e, e2, u8_wrap_nat])
theorem v_shr8 {s : Nat} (hx : evO l x = some (.int .u8 a)) (hy : evO l y = some (.int .i64 s)) (hs : s < 8) : OV P (.binOp .shr xt x y yt) ty l H (.int .u8 (a / 2 ^ s : Nat)) :=
  v_as (v_bin hx hy (shift_run (.inr rfl) _ _)) (by
    have e : min s IntKind.u8.bits = s := by show min s 8 = s; omega
    have e2 : (2 : Int) ^ s = ((2 ^ s : Nat) : Int) := by simp
    have e3 : (a : Int).fdiv ((2 ^ s : Nat) : Int) = ((a / 2 ^ s : Nat) : Int) := by
      rw [Int.fdiv_eq_ediv_of_nonneg _ (Int.natCast_nonneg _)]; rfl
    simp only [e, e2, e3])
theorem v_and8 (hx : evO l x = some (.int .u8 a)) (hy : evO l y = some (.int .u8 b)) (ha : a < 256) : OV P (.binOp .and xt x y yt) ty l H (.int .u8 (a &&& b : Nat)) :=
  v_as (v_bin hx hy fun _ => rfl) (by
    show Value.int .u8 (IntKind.u8.wrap ((BitVec.ofInt 8 a &&& BitVec.ofInt 8 b).toNat)) = _
    rw [ofInt_nat, ofInt_nat, u8_wrap_nat, BitVec.toNat_and, BitVec.toNat_ofNat, BitVec.toNat_ofNat]
    congr 2
    have h1 : a % 2 ^ 8 = a := Nat.mod_eq_of_lt ha
    have h2 : (a &&& b % 2 ^ 8) = (a &&& b) := by
      have := Nat.and_mod_two_pow (a := a) (b := b) (n := 8)
      rw [h1] at this
      rw [← this]
      exact Nat.mod_eq_of_lt (Nat.lt_of_le_of_lt Nat.and_le_left ha)
    rw [h1, h2]
    exact Nat.mod_eq_of_lt (Nat.lt_of_le_of_lt Nat.and_le_left ha))
theorem v_or8 (hx : evO l x = some (.int .u8 a)) (hy : evO l y = some (.int .u8 b)) (ha : a < 256) (hb : b < 256) : OV P (.binOp .or xt x y yt) ty l H (.int .u8 (a ||| b : Nat)) :=
  v_as (v_bin hx hy fun _ => rfl) (by
    show Value.int .u8 (IntKind.u8.wrap ((BitVec.ofInt 8 a ||| BitVec.ofInt 8 b).toNat)) = _
    rw [ofInt_nat, ofInt_nat, u8_wrap_nat, BitVec.toNat_or, BitVec.toNat_ofNat, BitVec.toNat_ofNat]
    congr 2
    rw [Nat.mod_eq_of_lt (show a < 2 ^ 8 from ha), Nat.mod_eq_of_lt (show b < 2 ^ 8 from hb)]
    exact Nat.mod_eq_of_lt (Nat.or_lt_two_pow (n := 8) ha hb))
/-! ### A constant on the right -/
section const
theorem v_addC (hx : evO l x = some (.int .i64 a)) (hy : evO l y = some (.int .i64 (@OfNat.ofNat Int b _))) (h : a + (@OfNat.ofNat Nat b _) < 9223372036854775808) : OV P (.binOp .add xt x y yt) ty l H (.int .i64 (a + (@OfNat.ofNat Nat b _) : Nat)) := v_add hx hy h
theorem v_subC (hx : evO l x = some (.int .i64 a)) (hy : evO l y = some (.int .i64 (@OfNat.ofNat Int b _))) (h : (@OfNat.ofNat Nat b _) ≤ a) (h' : a < 9223372036854775808) : OV P (.binOp .sub xt x y yt) ty l H (.int .i64 (a - (@OfNat.ofNat Nat b _) : Nat)) := v_sub hx hy h h'
theorem v_mulC (hx : evO l x = some (.int .i64 a)) (hy : evO l y = some (.int .i64 (@OfNat.ofNat Int b _))) (h : a * (@OfNat.ofNat Nat b _) < 9223372036854775808) : OV P (.binOp .mul xt x y yt) ty l H (.int .i64 (a * (@OfNat.ofNat Nat b _) : Nat)) := v_mul hx hy h
theorem v_mulD (hx : evO l x = some (.int .i64 (@OfNat.ofNat Int b _))) (hy : evO l y = some (.int .i64 a)) (h : (@OfNat.ofNat Nat b _) * a < 9223372036854775808) : OV P (.binOp .mul xt x y yt) ty l H (.int .i64 ((@OfNat.ofNat Nat b _) * a : Nat)) := v_mul hx hy h
theorem v_quoC (hx : evO l x = some (.int .i64 a)) (hy : evO l y = some (.int .i64 (@OfNat.ofNat Int b _))) (h : 0 < (@OfNat.ofNat Nat b _)) (h' : a < 9223372036854775808) : OV P (.binOp .quo xt x y yt) ty l H (.int .i64 (a / (@OfNat.ofNat Nat b _) : Nat)) := v_quo hx hy h h'
theorem v_remC {q : IntKind} (hx : evO l x = some (.int q a)) (hy : evO l y = some (.int q (@OfNat.ofNat Int b _))) (h : 0 < (@OfNat.ofNat Nat b _)) : OV P (.binOp .rem xt x y yt) ty l H (.int q (a % (@OfNat.ofNat Nat b _) : Nat)) := v_rem hx hy h
theorem v_one64 {s : Nat} (hx : evO l x = some (.int .u64 1)) (hy : evO l y = some (.int .i64 s)) (hs : s < 64) : OV P (.binOp .shl xt x y yt) ty l H (.int .u64 (2 ^ s : Nat)) := v_as (v_shl64 (a := 1) hx hy hs) (by rw [Nat.one_mul, Nat.mod_eq_of_lt (show 2 ^ s < 2 ^ 64 from Nat.pow_lt_pow_right (by decide) hs)])
theorem v_one8 {s : Nat} (hx : evO l x = some (.int .u8 1)) (hy : evO l y = some (.int .i64 s)) (hs : s < 8) : OV P (.binOp .shl xt x y yt) ty l H (.int .u8 (2 ^ s : Nat)) := v_as (v_shl8 (a := 1) hx hy hs) (by rw [Nat.one_mul, Nat.mod_eq_of_lt (show 2 ^ s < 2 ^ 8 from Nat.pow_lt_pow_right (by decide) hs)])
theorem v_and64C (hx : evO l x = some (.int .u64 a)) (hy : evO l y = some (.int .u64 (@OfNat.ofNat Int b _))) (ha : a < 18446744073709551616) : OV P (.binOp .and xt x y yt) ty l H (.int .u64 (a &&& (@OfNat.ofNat Nat b _) : Nat)) := v_and64 hx hy ha
theorem v_and8C (hx : evO l x = some (.int .u8 a)) (hy : evO l y = some (.int .u8 (@OfNat.ofNat Int b _))) (ha : a < 256) : OV P (.binOp .and xt x y yt) ty l H (.int .u8 (a &&& (@OfNat.ofNat Nat b _) : Nat)) := v_and8 hx hy ha
theorem v_and1_64 (hx : evO l x = some (.int .u64 a)) (hy : evO l y = some (.int .u64 1)) : OV P (.binOp .and xt x y yt) ty l H (.int .u64 (a % 2 : Nat)) :=
  v_as (v_bin hx hy fun _ => rfl) (by
    show Value.int .u64 (IntKind.u64.wrap ((BitVec.ofInt 64 a &&& BitVec.ofInt 64 (1 : Nat)).toNat)) = _
    rw [ofInt_nat, ofInt_nat, u64_wrap_nat, BitVec.toNat_and, BitVec.toNat_ofNat, BitVec.toNat_ofNat]
    congr 2
    rw [show 1 % 2 ^ 64 = 1 from rfl, Nat.and_one_is_mod]
    omega)
theorem v_and1_8 (hx : evO l x = some (.int .u8 a)) (hy : evO l y = some (.int .u8 1)) : OV P (.binOp .and xt x y yt) ty l H (.int .u8 (a % 2 : Nat)) :=
  v_as (v_bin hx hy fun _ => rfl) (by
    show Value.int .u8 (IntKind.u8.wrap ((BitVec.ofInt 8 a &&& BitVec.ofInt 8 (1 : Nat)).toNat)) = _
    rw [ofInt_nat, ofInt_nat, u8_wrap_nat, BitVec.toNat_and, BitVec.toNat_ofNat, BitVec.toNat_ofNat]
    congr 2
    rw [show 1 % 2 ^ 8 = 1 from rfl, Nat.and_one_is_mod]
    omega)
theorem v_pickT {c x y : Operand} {v : Value} {b : Bool} (hc : evO l c = some (.bool b)) (hb : b = true) (hx : evO l x = some v) : OV P (.pick c x y) ty l H v := ov fun _ _ _ w _ => by
  subst hb
  simp only [execOp, ev_of hc, ev_of hx]; rfl
theorem v_pickF {c x y : Operand} {v : Value} {b : Bool} (hc : evO l c = some (.bool b)) (hb : b = false) (hy : evO l y = some v) : OV P (.pick c x y) ty l H v := ov fun _ _ _ w _ => by
  subst hb
  simp only [execOp, ev_of hc, ev_of hy]; rfl
theorem v_pickB {c x y : Operand} {b u v : Bool} (hc : evO l c = some (.bool b)) (hx : evO l x = some (.bool u)) (hy : evO l y = some (.bool v)) : OV P (.pick c x y) ty l H (.bool (bif b then u else v)) := ov fun _ _ _ w _ => by
  simp only [execOp, ev_of hc, ev_of hx, ev_of hy]; cases b <;> rfl
theorem v_shr64U {s : Nat} (hx : evO l x = some (.int .u64 a)) (hy : evO l y = some (.int .u64 (@OfNat.ofNat Int s _))) (hs : (@OfNat.ofNat Nat s _) < 64) : OV P (.binOp .shr xt x y yt) ty l H (.int .u64 (a / 2 ^ (@OfNat.ofNat Nat s _) : Nat)) :=
  v_bin hx hy fun w => by
    have h0 : ¬ ((@OfNat.ofNat Int s _) < 0) := by show ¬ ((s : Int) < 0); omega
    have e : min s 64 = s := Nat.min_eq_left (Nat.le_of_lt hs)
    have e3 : (a : Int).fdiv ((2 ^ s : Nat) : Int) = ((a / 2 ^ s : Nat) : Int) := by
      rw [Int.fdiv_eq_ediv_of_nonneg _ (Int.natCast_nonneg _)]; rfl
    show ((binOp .shr xt (.int .u64 a) (.int .u64 (s : Int))).run P w) = .ok (.int .u64 ((a / 2 ^ s : Nat) : Int)) w
    have h0' : ¬ ((s : Int) < 0) := by omega
    simp only [binOp, Op.shift, h0', if_false, Int.toNat_natCast]
    rw [← e3, show min s IntKind.u64.bits = s from e]
    simp
theorem v_addU (hx : evO l x = some (.int .u64 a)) (hy : evO l y = some (.int .u64 b)) (h : a + b < 18446744073709551616) : OV P (.binOp .add xt x y yt) ty l H (.int .u64 (a + b : Nat)) :=
  v_as (v_bin hx hy fun _ => rfl) (by rw [u64_in] <;> first | rfl | omega)
theorem i64_wrap_eq (n : Int) : IntKind.i64.wrap n = (n + 9223372036854775808) % 18446744073709551616 - 9223372036854775808 := by
  simp only [IntKind.wrap, IntKind.bits, IntKind.signed]
  simp
  split <;> omega
theorem i64_and_low (a : Nat) (s : Nat) (hs : s < 63) : IntKind.i64.wrap ((BitVec.ofInt 64 (IntKind.i64.wrap (a : Int)) &&& BitVec.ofInt 64 ((2 ^ s - 1 : Nat) : Int)).toNat : Int) = ((a &&& (2 ^ s - 1) : Nat) : Int) := by
  have e1 : BitVec.ofInt 64 (IntKind.i64.wrap (a : Int)) = BitVec.ofNat 64 a := by
    apply BitVec.eq_of_toNat_eq
    rw [BitVec.toNat_ofInt, BitVec.toNat_ofNat, i64_wrap_eq]
    have : (((a : Int) + 9223372036854775808) % 18446744073709551616 - 9223372036854775808) % ((2 ^ 64 : Nat) : Int) = (a : Int) % 18446744073709551616 := by
      rw [show ((2 ^ 64 : Nat) : Int) = 18446744073709551616 from rfl]; omega
    rw [this]
    omega
  have hp : 2 ^ s ≤ 2 ^ 62 := Nat.pow_le_pow_right (by decide) (by omega)
  rw [e1, ofInt_nat, BitVec.toNat_and, BitVec.toNat_ofNat, BitVec.toNat_ofNat]
  rw [Nat.mod_eq_of_lt (show 2 ^ s - 1 < 2 ^ 64 by omega), Nat.and_two_pow_sub_one_eq_mod, Nat.and_two_pow_sub_one_eq_mod]
  rw [Nat.mod_mod_of_dvd _ (Nat.pow_dvd_pow 2 (by omega))]
  have := Nat.mod_lt a (Nat.two_pow_pos s)
  exact i64_in _ (by omega) (by omega)
theorem v_mulUC (hx : evO l x = some (.int .u64 a)) (hy : evO l y = some (.int .u64 (@OfNat.ofNat Int b _))) : OV P (.binOp .mul xt x y yt) ty l H (.int .u64 (a * (@OfNat.ofNat Nat b _) % 18446744073709551616 : Nat)) :=
  v_as (v_bin hx hy fun _ => rfl) (by
    have e : (a : Int) * (@OfNat.ofNat Int b _) = ((a * b : Nat) : Int) := by rw [Int.natCast_mul]; rfl
    rw [e, u64_wrap_nat]; rfl)
theorem v_not64 {t : TypeId} (hx : evO l x = some (.int .u64 a)) (ha : a < 18446744073709551616) : OV P (.unOp .xor t x) ty l H (.int .u64 (18446744073709551615 ^^^ a : Nat)) := ov fun _ _ _ w _ => by
  have e : (Op.unary .xor (.int .u64 a) : Sem Value).run P w = .ok (.int .u64 (18446744073709551615 ^^^ a : Nat)) w := by
    have h : (18446744073709551615 ^^^ a) < 18446744073709551616 := Nat.xor_lt_two_pow (n := 64) (by decide) ha
    show Result.ok (Value.int .u64 (IntKind.u64.wrap ((BitVec.ofInt 64 ((18446744073709551615 : Nat) : Int) ^^^ BitVec.ofInt 64 (a : Int)).toNat))) w = _
    rw [ofInt_nat, ofInt_nat, u64_wrap_nat, BitVec.toNat_xor, BitVec.toNat_ofNat, BitVec.toNat_ofNat, Nat.mod_eq_of_lt (show a < 2 ^ 64 from ha), Nat.mod_eq_of_lt (show 18446744073709551615 < 2 ^ 64 by decide), Nat.mod_eq_of_lt h]
  simp only [execOp, ev_of hx, Sem.run_bind, e]; rfl
theorem v_neg64 {t : TypeId} (hx : evO l x = some (.int .u64 a)) (h0 : 0 < a) (ha : a < 18446744073709551616) : OV P (.unOp .neg t x) ty l H (.int .u64 (18446744073709551616 - a : Nat)) := ov fun _ _ _ w _ => by
  have e : (Op.unary .neg (.int .u64 a) : Sem Value).run P w = .ok (.int .u64 (18446744073709551616 - a : Nat)) w := by
    show Result.ok (Value.int .u64 (IntKind.u64.wrap (0 - (a : Int)))) w = _
    have : IntKind.u64.wrap (0 - (a : Int)) = ((18446744073709551616 - a : Nat) : Int) := by
      simp [IntKind.wrap, IntKind.bits, IntKind.signed]; omega
    rw [this]
  simp only [execOp, ev_of hx, Sem.run_bind, e]; rfl
theorem v_add8 (hx : evO l x = some (.int .u8 a)) (hy : evO l y = some (.int .u8 b)) (h : a + b < 256) : OV P (.binOp .add xt x y yt) ty l H (.int .u8 (a + b : Nat)) :=
  v_as (v_bin hx hy fun _ => rfl) (by rw [u8_in] <;> first | rfl | omega)
end const
end Go.Eng
