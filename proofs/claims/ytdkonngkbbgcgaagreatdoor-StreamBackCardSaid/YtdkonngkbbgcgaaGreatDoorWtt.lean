/- Words of 32 bits, as bit vectors: what each operation gives. -/
import Derived.Test.YtdkonngkbbgcgaaGreatDoorSym
namespace Go.Eng
open Go.RowKit
set_option maxRecDepth 100000
section
variable {P : Program} {l : Slots} {H : World → Prop} {x y : Operand} {xt yt ty : TypeId}
/-- The value of a word. -/
abbrev w32 (a : BitVec 32) : Value := .int .u32 (a.toNat : Int)
theorem ofInt_w (a : BitVec 32) : BitVec.ofInt 32 (a.toNat : Int) = a := by rw [ofInt_nat, BitVec.ofNat_toNat, BitVec.setWidth_eq]
theorem wrap_w (n : Nat) : IntKind.u32.wrap (n : Int) = ((BitVec.ofNat 32 n).toNat : Int) := by rw [u32_wrap_nat, BitVec.toNat_ofNat]
theorem wrap_wi (a : BitVec 32) : IntKind.u32.wrap (a.toNat : Int) = (a.toNat : Int) := by rw [wrap_w, BitVec.ofNat_toNat, BitVec.setWidth_eq]
theorem v_xorW {a b : BitVec 32} (hx : evO l x = some (w32 a)) (hy : evO l y = some (w32 b)) : OV P (.binOp .xor xt x y yt) ty l H (w32 (a ^^^ b)) :=
  v_as (v_bin hx hy fun _ => rfl) (by
    show Value.int .u32 (IntKind.u32.wrap ((BitVec.ofInt 32 a.toNat ^^^ BitVec.ofInt 32 b.toNat).toNat)) = _
    rw [ofInt_w, ofInt_w, wrap_wi])
theorem v_andW {a b : BitVec 32} (hx : evO l x = some (w32 a)) (hy : evO l y = some (w32 b)) : OV P (.binOp .and xt x y yt) ty l H (w32 (a &&& b)) :=
  v_as (v_bin hx hy fun _ => rfl) (by
    show Value.int .u32 (IntKind.u32.wrap ((BitVec.ofInt 32 a.toNat &&& BitVec.ofInt 32 b.toNat).toNat)) = _
    rw [ofInt_w, ofInt_w, wrap_wi])
theorem v_orW {a b : BitVec 32} (hx : evO l x = some (w32 a)) (hy : evO l y = some (w32 b)) : OV P (.binOp .or xt x y yt) ty l H (w32 (a ||| b)) :=
  v_as (v_bin hx hy fun _ => rfl) (by
    show Value.int .u32 (IntKind.u32.wrap ((BitVec.ofInt 32 a.toNat ||| BitVec.ofInt 32 b.toNat).toNat)) = _
    rw [ofInt_w, ofInt_w, wrap_wi])
theorem wrap_wadd (a b : BitVec 32) : IntKind.u32.wrap ((a.toNat : Int) + (b.toNat : Int)) = ((a + b).toNat : Int) := by
  rw [← Int.natCast_add, u32_wrap_nat, BitVec.toNat_add]
theorem v_addW32 {a b : BitVec 32} (hx : evO l x = some (w32 a)) (hy : evO l y = some (w32 b)) : OV P (.binOp .add xt x y yt) ty l H (w32 (a + b)) :=
  v_as (v_bin hx hy fun _ => rfl) (by
    show Value.int .u32 (IntKind.u32.wrap ((a.toNat : Int) + (b.toNat : Int))) = _
    rw [wrap_wadd])
theorem v_notW {t : TypeId} {a : BitVec 32} (hx : evO l x = some (w32 a)) : OV P (.unOp .xor t x) ty l H (w32 (~~~a)) := ov fun _ _ _ w _ => by
  have e : (Op.unary .xor (.int .u32 a.toNat) : Sem Value).run P w = .ok (w32 (~~~a)) w := by
    show Result.ok (Value.int .u32 (IntKind.u32.wrap ((BitVec.ofInt 32 ((4294967295 : Nat) : Int) ^^^ BitVec.ofInt 32 (a.toNat : Int)).toNat))) w = _
    rw [ofInt_w, wrap_wi, show BitVec.ofInt 32 ((4294967295 : Nat) : Int) = BitVec.allOnes 32 from rfl, BitVec.allOnes_xor]
  simp only [execOp, ev_of hx, Sem.run_bind, e]; rfl
theorem shift_runU {op : BinOp} {k q : IntKind} (hop : op = .shl ∨ op = .shr) (n : Int) (s : Nat) (w : World) :
    (do eqGuard op xt x y (.int k n) (.int q s); binOp op xt (.int k n) (.int q s) : Sem Value).run P w = .ok (match op with | .shl => .int k (k.wrap (n * 2 ^ (min s k.bits))) | _ => .int k (n.fdiv (2 ^ (min s k.bits)))) w := by
  have h0 : ¬ ((s : Int) < 0) := by omega
  rcases hop with rfl | rfl
  · show ((binOp .shl xt (.int k n) (.int q s)).run P w) = _
    simp only [binOp, Op.shift, h0, if_false, Int.toNat_natCast]; rfl
  · show ((binOp .shr xt (.int k n) (.int q s)).run P w) = _
    simp only [binOp, Op.shift, h0, if_false, Int.toNat_natCast]; rfl
theorem v_shrW {a : BitVec 32} {q : IntKind} {s : Nat} (hx : evO l x = some (w32 a)) (hy : evO l y = some (.int q s)) (hs : s ≤ 32) : OV P (.binOp .shr xt x y yt) ty l H (w32 (a >>> s)) :=
  v_as (v_bin hx hy (shift_runU (.inr rfl) _ _)) (by
    have e : min s IntKind.u32.bits = s := by show min s 32 = s; omega
    have e2 : (2 : Int) ^ s = ((2 ^ s : Nat) : Int) := by simp
    have e3 : (a.toNat : Int).fdiv ((2 ^ s : Nat) : Int) = ((a >>> s).toNat : Int) := by
      rw [Int.fdiv_eq_ediv_of_nonneg _ (Int.natCast_nonneg _), BitVec.toNat_ushiftRight, Nat.shiftRight_eq_div_pow]; rfl
    simp only [e, e2, e3])
theorem v_shlW {a : BitVec 32} {q : IntKind} {s : Nat} (hx : evO l x = some (w32 a)) (hy : evO l y = some (.int q s)) (hs : s ≤ 32) : OV P (.binOp .shl xt x y yt) ty l H (w32 (a <<< s)) :=
  v_as (v_bin hx hy (shift_runU (.inl rfl) _ _)) (by
    have e : min s IntKind.u32.bits = s := by show min s 32 = s; omega
    have e2 : ((a.toNat : Int) * 2 ^ s) = ((a.toNat * 2 ^ s : Nat) : Int) := by simp
    have e3 : a.toNat * 2 ^ s % 4294967296 = (a <<< s).toNat := by rw [BitVec.toNat_shiftLeft, Nat.shiftLeft_eq]
    simp only [e, e2, u32_wrap_nat, e3])
theorem lit32 {b : Nat} (h : b < 4294967296) : (b : Int) = ((BitVec.ofNat 32 b).toNat : Int) := by rw [BitVec.toNat_ofNat, Nat.mod_eq_of_lt h]
theorem v_shrWC {a : BitVec 32} {q : IntKind} {s : Nat} (hx : evO l x = some (w32 a)) (hy : evO l y = some (.int q (@OfNat.ofNat Int s _))) (hs : @OfNat.ofNat Nat s _ ≤ 32) : OV P (.binOp .shr xt x y yt) ty l H (w32 (a >>> (@OfNat.ofNat Nat s _))) := v_shrW hx hy hs
theorem v_shlWC {a : BitVec 32} {q : IntKind} {s : Nat} (hx : evO l x = some (w32 a)) (hy : evO l y = some (.int q (@OfNat.ofNat Int s _))) (hs : @OfNat.ofNat Nat s _ ≤ 32) : OV P (.binOp .shl xt x y yt) ty l H (w32 (a <<< (@OfNat.ofNat Nat s _))) := v_shlW hx hy hs
theorem v_andWC {a : BitVec 32} {b : Nat} (hx : evO l x = some (w32 a)) (hy : evO l y = some (.int .u32 (@OfNat.ofNat Int b _))) (hb : @OfNat.ofNat Nat b _ < 4294967296) : OV P (.binOp .and xt x y yt) ty l H (w32 (a &&& BitVec.ofNat 32 (@OfNat.ofNat Nat b _))) := v_andW hx (hy.trans (congrArg (fun i => some (Value.int .u32 i)) (lit32 hb)))
theorem v_xorWC {a : BitVec 32} {b : Nat} (hx : evO l x = some (w32 a)) (hy : evO l y = some (.int .u32 (@OfNat.ofNat Int b _))) (hb : @OfNat.ofNat Nat b _ < 4294967296) : OV P (.binOp .xor xt x y yt) ty l H (w32 (a ^^^ BitVec.ofNat 32 (@OfNat.ofNat Nat b _))) := v_xorW hx (hy.trans (congrArg (fun i => some (Value.int .u32 i)) (lit32 hb)))
theorem v_addWC {a : BitVec 32} {b : Nat} (hx : evO l x = some (w32 a)) (hy : evO l y = some (.int .u32 (@OfNat.ofNat Int b _))) (hb : @OfNat.ofNat Nat b _ < 4294967296) : OV P (.binOp .add xt x y yt) ty l H (w32 (a + BitVec.ofNat 32 (@OfNat.ofNat Nat b _))) := v_addW32 hx (hy.trans (congrArg (fun i => some (Value.int .u32 i)) (lit32 hb)))
end
end Go.Eng
