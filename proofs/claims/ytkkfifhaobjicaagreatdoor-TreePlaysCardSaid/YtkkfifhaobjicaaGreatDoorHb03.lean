/- Short ways for the calculus: values and side conditions by instances. Own work; no condition. -/
import Derived.Test.YtkkfifhaobjicaaGreatDoorHb02
namespace Go.Eng
open Go.RowKit
variable {P : Program} {Q : Exit → Act → World → Prop} {N : Fm} {l : zat} {H : World → Prop} {ops : Array Oper} {rest : List Oper} {w0 : World} {F : Nat → Prop} {m : List Item} {ty : TypeId} {pos : String} {after : Array Edge} {g : Option (Nat × Bool)} {d : Nat} {S : World → Prop} {t : Nat}
/-! ### instances -/
class NatOf (a : Int) (x : outParam Nat) : Prop where eq : a = (x : Int)
instance natCast (x : Nat) : NatOf (x : Int) x := ⟨rfl⟩
instance natLit (n : Nat) : NatOf (no_index (@OfNat.ofNat Int n _)) (@OfNat.ofNat Nat n _) := ⟨rfl⟩
class Lim (k : IntKind) (L : outParam Nat) : Prop where wrap : ∀ n : Nat, n < L → k.wrap n = n
instance : Lim .i64 9223372036854775808 := ⟨fun n h => by simp [IntKind.wrap, IntKind.bits, IntKind.signed]; omega⟩
instance : Lim .i32 2147483648 := ⟨fun n h => by simp [IntKind.wrap, IntKind.bits, IntKind.signed]; omega⟩
instance : Lim .u64 18446744073709551616 := ⟨fun n h => by simp [IntKind.wrap, IntKind.bits, IntKind.signed]; omega⟩
instance : Lim .u32 4294967296 := ⟨fun n h => by simp [IntKind.wrap, IntKind.bits, IntKind.signed]; omega⟩
instance : Lim .u16 65536 := ⟨fun n h => by simp [IntKind.wrap, IntKind.bits, IntKind.signed]; omega⟩
instance : Lim .u8 256 := ⟨fun n h => by simp [IntKind.wrap, IntKind.bits, IntKind.signed]; omega⟩
class Deci (b : Bool) (p : outParam Prop) : Prop where iff : b = true ↔ p
instance {p : Prop} {_ : Decidable p} : Deci (decide p) p := ⟨by simp⟩
instance {α : Type} [BEq α] [LawfulBEq α] (a b : α) : Deci (a == b) (a = b) := ⟨by simp⟩
instance {α : Type} [BEq α] [LawfulBEq α] (a b : α) : Deci (a != b) (a ≠ b) := ⟨by simp⟩
instance {b : Bool} {p : Prop} [h : Deci b p] : Deci (!b) (¬ p) := ⟨by rw [← h.iff]; simp⟩
instance (a b : ByteArray) : Deci (seq a b) (a = b) := ⟨ztj⟩
instance : Deci true True := ⟨by simp⟩
instance : Deci false False := ⟨by simp⟩
instance (priority := low) (b : Bool) : Deci b (b = true) := ⟨.rfl⟩
class DeciN (b : Bool) (p : outParam Prop) : Prop where iff : b = true ↔ p
instance {p : Prop} {_ : Decidable p} : DeciN (decide p) p := ⟨by simp⟩
instance {α : Type} [BEq α] [LawfulBEq α] (a b : α) : DeciN (a == b) (a = b) := ⟨by simp⟩
instance {α : Type} [BEq α] [LawfulBEq α] (a b : α) : DeciN (a != b) (a ≠ b) := ⟨by simp⟩
instance {b : Bool} {p : Prop} [h : Deci b p] : DeciN (!b) (¬ p) := ⟨by rw [← h.iff]; simp⟩
instance (a b : ByteArray) : DeciN (seq a b) (a = b) := ⟨ztj⟩
theorem DeciN.deci {b : Bool} {p : Prop} (h : DeciN b p) : Deci b p := ⟨h.iff⟩
theorem Deci.yes {b : Bool} {p : Prop} [h : Deci b p] (hp : p) : b = true := h.iff.2 hp
theorem Deci.no {b : Bool} {p : Prop} [h : Deci b p] (hp : ¬ p) : b = false := by
 cases b with
 | false => rfl
 | true => exact absurd (h.iff.1 rfl) hp
/-! ### operations on two values -/
class BinV (op : BinOp) (u v : Value) (r : outParam Value) (C : outParam Prop) : Prop where
 run : C → ∀ (P : Program) (xt : TypeId) (x y : Operand) (w : World), (do eqGuard op xt x y u v; binOp op xt u v : Sem Value).run P w = .ok r w
theorem qcl {op : BinOp} {x y : Operand} {u v r : Value} {C : Prop} {T U : TypeId} [h : BinV op u v r C] (hx : evO l x = some u) (hy : evO l y = some v) (hc : C) : OV P (.binOp op T x y U) ty l H r := zf1 hx hy fun w => h.run hc P T x y w
theorem qd5 {op : BinOp} {x y : Operand} {u v r : Value} {T U : TypeId} [h : BinV op u v r True] (hx : evO l x = some u) (hy : evO l y = some v) : OV P (.binOp op T x y U) ty l H r := qcl hx hy trivial
theorem ze3 {k : IntKind} {a b : Int} (w : World) (h : a = b) : (.ok (.int k a) w : Result Value) = .ok (.int k b) w := by rw [h]
section
variable {k : IntKind} {a b : Int} {x y L : Nat} [ha : NatOf a x] [hb : NatOf b y] [hL : Lim k L]
include ha hb hL
instance : BinV .add (.int k a) (.int k b) (.int k (x + y : Nat)) (x + y < L) := ⟨fun h P xt o o' w => by
 obtain rfl := ha.eq; obtain rfl := hb.eq
 show (if k ≠ k then _ else Op.intArith .add k _ _).run P w = _
 rw [if_neg (by simp)]
 exact ze3 w (by rw [← Int.natCast_add]; exact hL.wrap _ h)⟩
instance : BinV .sub (.int k a) (.int k b) (.int k (x - y : Nat)) (y ≤ x ∧ x - y < L) := ⟨fun h P xt o o' w => by
 obtain rfl := ha.eq; obtain rfl := hb.eq
 show (if k ≠ k then _ else Op.intArith .sub k _ _).run P w = _
 rw [if_neg (by simp)]
 exact ze3 w (by rw [← Int.natCast_sub h.1]; exact hL.wrap _ h.2)⟩
instance : BinV .mul (.int k a) (.int k b) (.int k (x * y : Nat)) (x * y < L) := ⟨fun h P xt o o' w => by
 obtain rfl := ha.eq; obtain rfl := hb.eq
 show (if k ≠ k then _ else Op.intArith .mul k _ _).run P w = _
 rw [if_neg (by simp)]
 exact ze3 w (by rw [← Int.natCast_mul]; exact hL.wrap _ h)⟩
instance : BinV .quo (.int k a) (.int k b) (.int k (x / y : Nat)) (0 < y ∧ x < L) := ⟨fun h P xt o o' w => by
 obtain rfl := ha.eq; obtain rfl := hb.eq
 show (if k ≠ k then _ else Op.intDiv .quo k _ _).run P w = _
 rw [if_neg (by simp)]
 have h0 : ¬ ((y : Int) = 0) := by omega
 simp only [Op.intDiv, h0, if_false]
 exact ze3 w (hL.wrap _ (Nat.lt_of_le_of_lt (Nat.div_le_self x y) h.2))⟩
instance : BinV .rem (.int k a) (.int k b) (.int k (x % y : Nat)) (0 < y) := ⟨fun h P xt o o' w => by
 obtain rfl := ha.eq; obtain rfl := hb.eq
 show (if k ≠ k then _ else Op.intDiv .rem k _ _).run P w = _
 rw [if_neg (by simp)]
 have h0 : ¬ ((y : Int) = 0) := by omega
 simp only [Op.intDiv, h0, if_false]
 exact ze3 w rfl⟩
end
/-! general integers -/
section
variable {k : IntKind} {a b : Int}
instance (priority := low) : BinV .add (.int .i64 a) (.int .i64 b) (.int .i64 (a + b)) (-9223372036854775808 ≤ a + b ∧ a + b < 9223372036854775808) := ⟨fun h _ _ _ _ w => ze3 w (zzj _ h.1 h.2)⟩
instance (priority := low) : BinV .sub (.int .i64 a) (.int .i64 b) (.int .i64 (a - b)) (-9223372036854775808 ≤ a - b ∧ a - b < 9223372036854775808) := ⟨fun h _ _ _ _ w => ze3 w (zzj _ h.1 h.2)⟩
instance : BinV .lss (.int k a) (.int k b) (.bool (decide (a < b))) True := ⟨fun _ P xt o o' w => by
 show (if k ≠ k then _ else Op.intCmp .lss _ _).run P w = _
 rw [if_neg (by simp)]; rfl⟩
instance : BinV .leq (.int k a) (.int k b) (.bool (decide (a ≤ b))) True := ⟨fun _ P xt o o' w => by
 show (if k ≠ k then _ else Op.intCmp .leq _ _).run P w = _
 rw [if_neg (by simp)]; rfl⟩
instance : BinV .gtr (.int k a) (.int k b) (.bool (decide (a > b))) True := ⟨fun _ P xt o o' w => by
 show (if k ≠ k then _ else Op.intCmp .gtr _ _).run P w = _
 rw [if_neg (by simp)]; rfl⟩
instance : BinV .geq (.int k a) (.int k b) (.bool (decide (a ≥ b))) True := ⟨fun _ P xt o o' w => by
 show (if k ≠ k then _ else Op.intCmp .geq _ _).run P w = _
 rw [if_neg (by simp)]; rfl⟩
instance : BinV .eql (.int k a) (.int k b) (.bool (a == b)) True := ⟨fun _ P xt o o' w => by
 show (if k ≠ k then _ else Op.intCmp .eql _ _).run P w = _
 rw [if_neg (by simp)]; rfl⟩
instance : BinV .neq (.int k a) (.int k b) (.bool (a != b)) True := ⟨fun _ P xt o o' w => by
 show (if k ≠ k then _ else Op.intCmp .neq _ _).run P w = _
 rw [if_neg (by simp)]; rfl⟩
end
/-! bits of unsigned kinds -/
class Uns (k : IntKind) (L n : outParam Nat) : Prop where
 bits : k.bits = n
 lim : L = 2 ^ n
 wrap : ∀ m : Nat, k.wrap (m : Int) = ((m % L : Nat) : Int)
instance : Uns .u8 256 8 := ⟨rfl, rfl, zh4⟩
instance : Uns .u16 65536 16 := ⟨rfl, rfl, fun n => by simp [IntKind.wrap, IntKind.bits, IntKind.signed]⟩
instance : Uns .u32 4294967296 32 := ⟨rfl, rfl, zg3⟩
instance : Uns .u64 18446744073709551616 64 := ⟨rfl, rfl, zdd⟩
section
variable {k : IntKind} {a b : Int} {x y L n : Nat} [ha : NatOf a x] [hb : NatOf b y] [hU : Uns k L n]
include ha hb hU
instance : BinV .and (.int k a) (.int k b) (.int k (x &&& y : Nat)) (x < L) := ⟨fun h P xt o o' w => by
 obtain rfl := ha.eq; obtain rfl := hb.eq; obtain rfl := hU.bits; obtain rfl := hU.lim
 show (if k ≠ k then _ else Op.intBits .and k _ _).run P w = _
 rw [if_neg (by simp)]
 refine ze3 w ?_
 rw [zbu, zbu, hU.wrap, BitVec.toNat_and, BitVec.toNat_ofNat, BitVec.toNat_ofNat]
 congr 1
 have h1 : x % 2 ^ k.bits = x := Nat.mod_eq_of_lt h
 have h2 : (x &&& y % 2 ^ k.bits) = (x &&& y) := by
  have := Nat.and_mod_two_pow (a := x) (b := y) (n := k.bits)
  rw [h1] at this
  rw [← this]
  exact Nat.mod_eq_of_lt (Nat.lt_of_le_of_lt Nat.and_le_left h)
 rw [h1, h2]
 exact Nat.mod_eq_of_lt (Nat.lt_of_le_of_lt Nat.and_le_left h)⟩
instance : BinV .or (.int k a) (.int k b) (.int k (x ||| y : Nat)) (x < L ∧ y < L) := ⟨fun h P xt o o' w => by
 obtain rfl := ha.eq; obtain rfl := hb.eq; obtain rfl := hU.bits; obtain rfl := hU.lim
 show (if k ≠ k then _ else Op.intBits .or k _ _).run P w = _
 rw [if_neg (by simp)]
 refine ze3 w ?_
 rw [zbu, zbu, hU.wrap, BitVec.toNat_or, BitVec.toNat_ofNat, BitVec.toNat_ofNat]
 congr 1
 rw [Nat.mod_eq_of_lt h.1, Nat.mod_eq_of_lt h.2]
 exact Nat.mod_eq_of_lt (Nat.or_lt_two_pow h.1 h.2)⟩
instance : BinV .xor (.int k a) (.int k b) (.int k (x ^^^ y : Nat)) (x < L ∧ y < L) := ⟨fun h P xt o o' w => by
 obtain rfl := ha.eq; obtain rfl := hb.eq; obtain rfl := hU.bits; obtain rfl := hU.lim
 show (if k ≠ k then _ else Op.intBits .xor k _ _).run P w = _
 rw [if_neg (by simp)]
 refine ze3 w ?_
 rw [zbu, zbu, hU.wrap, BitVec.toNat_xor, BitVec.toNat_ofNat, BitVec.toNat_ofNat]
 congr 1
 rw [Nat.mod_eq_of_lt h.1, Nat.mod_eq_of_lt h.2]
 exact Nat.mod_eq_of_lt (Nat.xor_lt_two_pow h.1 h.2)⟩
instance {k' : IntKind} : BinV .shr (.int k a) (.int k' b) (.int k (x / 2 ^ y : Nat)) (y < n) := ⟨fun h P xt o o' w => by
 obtain rfl := ha.eq; obtain rfl := hb.eq; obtain rfl := hU.bits
 show ((binOp .shr xt (.int k x) (.int k' y)).run P w) = _
 have h0 : ¬ ((y : Int) < 0) := by omega
 simp only [binOp, Op.shift, h0, if_false, Int.toNat_natCast]
 refine ze3 w ?_
 have e : min y k.bits = y := by omega
 have e2 : (2 : Int) ^ y = ((2 ^ y : Nat) : Int) := by simp
 rw [e, e2, Int.fdiv_eq_ediv_of_nonneg _ (Int.natCast_nonneg _)]
 rfl⟩
instance {k' : IntKind} : BinV .shl (.int k a) (.int k' b) (.int k (x * 2 ^ y % L : Nat)) (y < n) := ⟨fun h P xt o o' w => by
 obtain rfl := ha.eq; obtain rfl := hb.eq; obtain rfl := hU.bits
 show ((binOp .shl xt (.int k x) (.int k' y)).run P w) = _
 have h0 : ¬ ((y : Int) < 0) := by omega
 simp only [binOp, Op.shift, h0, if_false, Int.toNat_natCast]
 refine ze3 w ?_
 have e : min y k.bits = y := by omega
 have e2 : ((x : Int) * 2 ^ y) = ((x * 2 ^ y : Nat) : Int) := by simp
 rw [e, e2, hU.wrap]⟩
end
/-! bools, strings, nil -/
theorem zzh (a b : ByteArray) : seq a b = (a.toList == b.toList) := by rw [← qee, ← zpq]
section
variable {a b : Bool} {s u : ByteArray}
instance : BinV .eql (.string s) (.string u) (.bool (seq s u)) True := ⟨fun _ _ _ _ _ _ => by rw [zzh]; rfl⟩
instance : BinV .neq (.string s) (.string u) (.bool (!seq s u)) True := ⟨fun _ _ _ _ _ _ => by rw [zzh]; rfl⟩
instance : BinV .lss (.string s) (.string u) (.bool (Op.bytesLess s.toList u.toList)) True := ⟨fun _ _ _ _ _ _ => rfl⟩
instance : BinV .gtr (.string s) (.string u) (.bool (!(Op.bytesLess s.toList u.toList || seq s u))) True := ⟨fun _ _ _ _ _ _ => by rw [zzh]; rfl⟩
instance : BinV .leq (.string s) (.string u) (.bool (Op.bytesLess s.toList u.toList || seq s u)) True := ⟨fun _ _ _ _ _ _ => by rw [zzh]; rfl⟩
instance : BinV .geq (.string s) (.string u) (.bool (!(Op.bytesLess s.toList u.toList))) True := ⟨fun _ _ _ _ _ _ => rfl⟩
instance : BinV .add (.string s) (.string u) (.string (s ++ u)) (s.size + u.size < 9223372036854775808) := ⟨fun h P xt o o' w => by
 have h' : ¬ (((s.size + u.size : Nat) : Int) > IntKind.i64.max) := by simp [IntKind.max, IntKind.bits, IntKind.signed]; omega
 show ((binOp .add xt (.string s) (.string u)).run P w) = _
 simp only [binOp, Op.stringOp, if_neg h']
 rfl⟩
end
theorem zpf {x y : Operand} {a b : Bool} {T U : TypeId} (hx : evO l x = some (.bool a)) (hy : evO l y = some (.bool b)) (hT : P.underlying T = some .bool) : OV P (.binOp .eql T x y U) ty l H (.bool (a == b)) := zf1 hx hy fun w => by
 show ((Op.equal T (.bool a) (.bool b) >>= fun r => (pure (Value.bool r) : Sem Value)).run P w) = _
 rw [Sem.run_bind, run_equal_bool w T a b hT]; rfl
/-! ### one operation -/
def okL (ops : Array Oper) (N : Fm) (l : zat) (g : Option (Nat × Bool)) (op : Op) (d : Nat) : Bool := okG ops l g && zfj N l op d
theorem l_w {op : Op} {v : Value} (hok : okL ops N l g op d = true) (hv : OV P op ty l H v) (k : HL P ops Q N rest ((d, v) :: l) H) : HL P ops Q N (⟨some d, op, ty, pos, after, g⟩ :: rest) l H := by
 simp only [okL, Bool.and_eq_true] at hok
 exact l_v hok.1 hok.2 hv k
def okP (ops : Array Oper) (N : Fm) (l : zat) (g : Nat × Bool) (d : Nat) : Bool := Nat.ble (d + 1) N.n && match nth ops.toList g.1 with
 | some o => (match o.dst with | some t => (match get l t with | some (.bool c) => !(c == g.2) | some (.tuple _) => true | _ => false) | none => false)
 | none => false
theorem qpj {op : Op} {g : Nat × Bool} (hok : okP ops N l g d = true) (k : HL P ops Q N rest ((d, undef) :: l) H) : HL P ops Q N (⟨some d, op, ty, pos, after, some g⟩ :: rest) l H := by
 simp only [okP, Bool.and_eq_true] at hok
 obtain ⟨h1, h2⟩ := hok
 split at h2
 ·rename_i o ho
  have ho := zed ho
  split at h2
  ·rename_i t ht
   split at h2
   ·rename_i c hc
    exact qmz h1 (by simp only [zmw, ho, Option.bind_some, ht, hc]; revert h2; cases c <;> cases g.2 <;> simp) k
   ·rename_i vs hc
    exact qly h1 (by simp only [qna, ho, Option.bind_some, ht, hc]) k
   ·cases h2
  ·cases h2
 ·cases h2
/-! values by instances -/
theorem qc3 {c x y : Operand} {v : Value} {b : Bool} {p : Prop} [h : Deci b p] (hc : evO l c = some (.bool b)) (hx : evO l x = some v) (hp : p) : OV P (.pick c x y) ty l H v := qkz hc (h.yes hp) hx
theorem qf5 {c x y : Operand} {v : Value} {b : Bool} {p : Prop} [h : Deci b p] (hc : evO l c = some (.bool b)) (hy : evO l y = some v) (hp : ¬ p) : OV P (.pick c x y) ty l H v := qms hc (h.no hp) hy
theorem qc5 {x : Operand} {b : Bool} {T : TypeId} (hx : evO l x = some (.bool b)) : OV P (.unOp .not T x) ty l H (.bool (!b)) := ov fun _ _ _ w _ => by simp only [execOp, zax hx]; rfl
theorem qf3 {T : TypeId} {x y : Operand} {b i n sz : Nat} {k : IntKind} {a : Int} {j : Nat} [h : NatOf a j] (hx : evO l x = some (.pointer (some ⟨b, i, none⟩))) (hy : evO l y = some (.int k a)) (hT : qek P T = some (n, sz)) (h1 : j < n) : OV P (.indexAddr T x y) ty l H (.pointer (some ⟨b, i + j * sz, none⟩)) := by
 obtain rfl := h.eq; exact qjo hx hy hT h1
theorem zpk {T : TypeId} {x y : Operand} {b i n : Nat} {k : IntKind} {a : Int} {j : Nat} [h : NatOf a j] (hx : evO l x = some (.pointer (some ⟨b, i, none⟩))) (hy : evO l y = some (.int k a)) (hT : qek P T = some (n, 1)) (h1 : j < n) : OV P (.indexAddr T x y) ty l H (.pointer (some ⟨b, i + j, none⟩)) := by
 obtain rfl := h.eq; exact qej hx hy hT h1
theorem zmj {T : TypeId} {x y : Operand} {b i n c : Nat} {k : IntKind} {a : Int} {j : Nat} [h : NatOf a j] (hx : evO l x = some (.slice (some ⟨b, i, none⟩) n c)) (hy : evO l y = some (.int k a)) (hT : qdw P T = some 1) (h1 : j < n) : OV P (.indexAddr T x y) ty l H (.pointer (some ⟨b, i + j, none⟩)) := by
 obtain rfl := h.eq; exact qma hx hy hT h1
theorem qdb {T : TypeId} {x y : Operand} {b i n c sz : Nat} {k : IntKind} {a : Int} {j : Nat} [h : NatOf a j] (hx : evO l x = some (.slice (some ⟨b, i, none⟩) n c)) (hy : evO l y = some (.int k a)) (hT : qdw P T = some sz) (h1 : j < n) : OV P (.indexAddr T x y) ty l H (.pointer (some ⟨b, i + j * sz, none⟩)) := by
 obtain rfl := h.eq; exact qkc hx hy hT h1
theorem qdl {T : TypeId} {x y : Operand} {s : ByteArray} {k : IntKind} {a : Int} {i : Nat} [h : NatOf a i] (hx : evO l x = some (.string s)) (hy : evO l y = some (.int k a)) (hT : P.underlying T = some .string) (hi : i < s.size) : OV P (.index T x y) ty l H (.int .u8 (s[i].toNat : Nat)) := by
 obtain rfl := h.eq; exact qk6 hx hy hT hi
theorem qep {T : TypeId} {x y : Operand} {s : ByteArray} {k : IntKind} {a : Int} {i : Nat} [h : NatOf a i] (hx : evO l x = some (.string s)) (hy : evO l y = some (.int k a)) (hT : P.underlying T = some .string) (hi : i ≤ s.size) : OV P (.slice T x (some y) none none) ty l H (.string (s.extract i s.size)) := by
 obtain rfl := h.eq; exact qi7 hx hy hT hi
theorem qe3 {T : TypeId} {x y : Operand} {s : ByteArray} {k : IntKind} {a : Int} {i : Nat} [h : NatOf a i] (hx : evO l x = some (.string s)) (hy : evO l y = some (.int k a)) (hT : P.underlying T = some .string) (hi : i ≤ s.size) : OV P (.slice T x none (some y) none) ty l H (.string (s.extract 0 i)) := by
 obtain rfl := h.eq; exact qhs hx hy hT hi
theorem zoy {T : TypeId} {x y z : Operand} {s : ByteArray} {k k' : IntKind} {a b : Int} {i j : Nat} [h : NatOf a i] [h' : NatOf b j] (hx : evO l x = some (.string s)) (hy : evO l y = some (.int k a)) (hz : evO l z = some (.int k' b)) (hT : P.underlying T = some .string) (hi : i ≤ j ∧ j ≤ s.size) : OV P (.slice T x (some y) (some z) none) ty l H (.string (s.extract i j)) := by
 obtain rfl := h.eq; obtain rfl := h'.eq; exact qlg hx hy hz hT hi.1 hi.2
theorem qfi {T e : TypeId} {x y : Operand} {p : Option Addr} {n c sz : Nat} {k : IntKind} {a : Int} {i : Nat} [h : NatOf a i] (hx : evO l x = some (.slice p n c)) (hy : evO l y = some (.int k a)) (hT : zka P T = some e) (he : zc1 P e = some sz) (hi : i ≤ n) : OV P (.slice T x (some y) none none) ty l H (.slice (zqr p (decide (c = i)) (i * sz)) (n - i) (c - i)) := by
 obtain rfl := h.eq; exact qow hx hy hT he hi
/-! ### guards and tests -/
section
variable {c : Operand} {x y : Code} {b : Bool} {p : Prop} [h : Deci b p]
include h
theorem t_T (hc : evO l c = some (.bool b)) (hk : zek l c = true) (hp : p) (k : HT P x Q N l H) : HT P (.cond c x y) Q N l H := qn4 hk hc (h.yes hp) k
theorem t_F (hc : evO l c = some (.bool b)) (hk : zek l c = true) (hp : ¬ p) (k : HT P y Q N l H) : HT P (.cond c x y) Q N l H := qkp hk hc (h.no hp) k
theorem qo3 (hc : evO l c = some (.bool b)) (hk : zek l c = true) (ht : p → HT P x Q N l H) (hf : ¬ p → HT P y Q N l H) : HT P (.cond c x y) Q N l H := zpi b hk hc (fun e => ht (h.iff.1 e)) (fun e => hf fun hp => by rw [h.yes hp] at e; cases e)
variable {op : Op} {dst : Option Nat} {g : Nat × Bool}
end
section
variable {b : Bool} {p : Prop} [h : DeciN b p] {op : Op} {dst : Option Nat} {g : Nat × Bool}
include h
theorem l_T (hd : (nth ops.toList g.1).bind (·.dst) = some d) (hg : get l d = some (.bool b)) (hp : p) (k : HL P ops Q N (⟨dst, op, ty, pos, after, some g⟩ :: rest) ((d, .bool true) :: l) H) : HL P ops Q N (⟨dst, op, ty, pos, after, some g⟩ :: rest) l H := qnj hd hg (h.deci.yes hp) k
theorem l_F (hd : (nth ops.toList g.1).bind (·.dst) = some d) (hg : get l d = some (.bool b)) (hp : ¬ p) (k : HL P ops Q N (⟨dst, op, ty, pos, after, some g⟩ :: rest) ((d, .bool false) :: l) H) : HL P ops Q N (⟨dst, op, ty, pos, after, some g⟩ :: rest) l H := qoa hd hg (h.deci.no hp) k
end
/-! ### regions that draw -/
def qc0 (all : List Oper) (listed : List Bool) (E : List Nat) (l : zat) : Nat → List Oper → Option Nat
 | _, [] => none
 | i, o :: r => bif nth listed i == some false && (!qlq E i && (ql4 listed o.after.toList && (qn2 o.op || noB all l o.guard))) then some i else qc0 all listed E l (i + 1) r
theorem d_w {i : Nat} (E : List Nat) {n : Nat} {listed : Array Bool} {op : Op} {v : Value} (_hp : qc0 ops.toList listed.toList E l 0 ops.toList = some i)
  (hi : nth ops.toList i = some ⟨some d, op, ty, pos, after, g⟩) (hok : okL ops N l g op d = true) (hb : zqj ops t listed i = true) (hS : ∀ w, H w → S w) (hv : OV P op ty l S v)
  (k : HD P ops Q S t N n (listed.setIfInBounds i true) ((d, v) :: l) H) : HD P ops Q S t N (n + 1) listed l H := by
 simp only [okL, Bool.and_eq_true] at hok
 have hp' : i = i := rfl
 obtain ⟨hs, hN, hk⟩ := zeq hok.2
 exact zvx hb (zed hi) hS (fun a s => .inl ⟨zi4 s hok.1, fun w hw => by rw [s.exec _ hs hk, zjf _ _ none _ _ _ "" _ #[] _ none]; exact hv.run none "" #[] w hw⟩) (fun a s => s.put hN v) k
theorem qj8 {i : Nat} (E : List Nat) {n : Nat} {listed : Array Bool} {op : Op} {g : Nat × Bool} (_hp : qc0 ops.toList listed.toList E l 0 ops.toList = some i)
  (hi : nth ops.toList i = some ⟨some d, op, ty, pos, after, some g⟩) (hok : okP ops N l g d = true) (hb : zqj ops t listed i = true) (hS : ∀ w, H w → S w)
  (k : HD P ops Q S t N n (listed.setIfInBounds i true) ((d, undef) :: l) H) : HD P ops Q S t N (n + 1) listed l H := by
 simp only [okP, Bool.and_eq_true] at hok
 obtain ⟨h1, h2⟩ := hok
 split at h2
 ·rename_i o ho
  have ho := zed ho
  split at h2
  ·rename_i t' ht
   split at h2
   ·rename_i c hc
    exact zvx hb (zed hi) hS (fun a s => .inr ⟨zir s (by simp only [zmw, ho, Option.bind_some, ht, hc]; revert h2; cases c <;> cases g.2 <;> simp), rfl⟩) (fun a s => s.put (Nat.le_of_ble_eq_true h1) undef) k
   ·rename_i vs hc
    exact zvx hb (zed hi) hS (fun a s => .inr ⟨zwe s (by simp only [qna, ho, Option.bind_some, ht, hc]), rfl⟩) (fun a s => s.put (Nat.le_of_ble_eq_true h1) undef) k
   ·cases h2
  ·cases h2
 ·cases h2
section
variable {i n d : Nat} {listed : Array Bool} {op : Op} {dst : Option Nat} {g : Nat × Bool} {b : Bool} {p : Prop} [h : DeciN b p]
include h
theorem d_T (E : List Nat) (_hp : pick ops listed E = some i) (_hi : nth ops.toList i = some ⟨dst, op, ty, pos, after, some g⟩) (_hd : (nth ops.toList g.1).bind (·.dst) = some d) (hg : get l d = some (.bool b)) (hp : p) (k : HD P ops Q S t N n listed ((d, .bool true) :: l) H) : HD P ops Q S t N n listed l H := zyg d _ _ hg (by rw [h.deci.yes hp]) k
theorem d_F (E : List Nat) (_hp : pick ops listed E = some i) (_hi : nth ops.toList i = some ⟨dst, op, ty, pos, after, some g⟩) (_hd : (nth ops.toList g.1).bind (·.dst) = some d) (hg : get l d = some (.bool b)) (hp : ¬ p) (k : HD P ops Q S t N n listed ((d, .bool false) :: l) H) : HD P ops Q S t N n listed l H := zyg d _ _ hg (by rw [h.deci.no hp]) k
end
/-! ### rows: made, set, read -/
theorem Hp.imp {it it' : Item} {w : World} (hw : Hp w0 F (it :: m) w) (hf : ∀ k, it'.foot k → it.foot k) (hp : it.prop w → it'.prop w) (hs : it'.Stable (qpa w0 F)) : Hp w0 F (it' :: m) w := by
 refine ⟨hw.fr, fun x hx => ?_, ?_⟩
 ·rcases List.mem_cons.1 hx with rfl | hx
  ·obtain ⟨h1, -, h3⟩ := hw.item it (by simp)
   exact ⟨hp h1, hs, fun k hk => h3 k (hf k hk)⟩
  ·exact hw.item x (by simp [hx])
 ·obtain ⟨h1, h2⟩ := List.pairwise_cons.1 hw.apart
  exact List.pairwise_cons.2 ⟨fun y hy k hk => h1 y hy k (hf k hk), h2⟩
theorem Hp.ownOf {w : World} {b n sz : Nat} {cs : Array Value} {e : TypeId} {c : Nat} (hw : Hp w0 F (pt b (.cells cs e (0, 0)) :: m) w) (hn : n ≤ c) (hc : c ≤ maxLen) (hs : cs.size = c * sz) : Hp w0 F (own e sz (some (b, c)) n (cs.toList.take (n * sz)) :: m) w :=
 hw.imp (fun k ⟨c', h⟩ => by cases h; rfl) (fun h => ⟨by
  have : n * sz ≤ c * sz := Nat.mul_le_mul_right _ hn
  rw [List.length_take, Array.length_toList, hs]; omega, hn, hc, cs, h, hs, rfl⟩) (zab _ _ _ _ _ _)
theorem qb8 {w : World} {e : TypeId} {sz n b c i : Nat} {xs : List Value} (h : (own e sz (some (b, c)) n xs).prop w) : w.frozen? ⟨b, i, none⟩ = false := by
 obtain ⟨-, -, cur, h3, -⟩ := h.2
 exact frozen_of_row w b i cur e h3
theorem qdo {w : World} {e : TypeId} {sz n b c i : Nat} {xs : List Value} (hw : Hp w0 F (own e sz (some (b, c)) n xs :: m) w) (v : Value) : Hp w0 F (own e sz (some (b, c)) n (xs.set i v) :: m) (w.setCell ⟨b, i, none⟩ v) := by
 have hp := (hw.item (own e sz (some (b, c)) n xs) (by simp)).1
 obtain ⟨h1, h2, cur, h3, h4, h5⟩ := hp.2
 refine Hp.call (L := [own e sz (some (b, c)) n (xs.set i v)]) (m := [own e sz (some (b, c)) n xs]) (Fc := fun k => k = b) hw ⟨⟨rfl, rfl, rfl, by simp [World.setCell], fun k _ hk => heap_setCell_other w ⟨b, i, none⟩ k v hk⟩, fun it hm => ?_, .cons (fun _ h => by cases h) .nil⟩ (fun k _ hk => ⟨own e sz (some (b, c)) n xs, by simp, ⟨c, by rw [hk]⟩⟩)
 obtain rfl : it = own e sz (some (b, c)) n (xs.set i v) := by simpa using hm
 refine ⟨⟨by simpa using hp.1, h1, h2, _, heap_setCell_same w b i cur e v h3, by simpa using h4, ?_⟩, zab _ _ _ _ _ _, fun k ⟨c', hk⟩ => ?_⟩
 ·rw [Array.toList_setIfInBounds, ← h5, List.take_set]
 ·cases hk
  refine ⟨?_, fun _ => rfl⟩
  have := (Array.getElem?_eq_some_iff.1 h3).1
  simpa [World.setCell] using this
theorem zts {T e : TypeId} {x y : Operand} {b i c n : Nat} {v : Value} {xs : List Value} (hok : (zg7 (.store T x y) && zem l (.store T x y)) = true)
  (hx : evO l x = some (.pointer (some ⟨b, i, none⟩))) (hy : evO l y = some v) (hT : (P.info? T).map (·.size) = some 1) (h1 : v.cells = #[v]) (h2 : v.oneCell' = true) (hi : i < n) :
  HO P ⟨none, .store T x y, ty, pos, after, g⟩ Q N l (Hp w0 F (own e 1 (some (b, c)) n xs :: m)) (α := Unit) (fun _ => l) (fun _ => Hp w0 F (own e 1 (some (b, c)) n (xs.set i v) :: m)) :=
 zug hok (fun w hw => by
  have hp := (hw.item (own e 1 (some (b, c)) n xs) (by simp)).1
  refine ⟨(), w.setCell ⟨b, i, none⟩ v, ?_, qdo hw v⟩
  have hl : i < xs.length := by rw [hp.1]; omega
  have hc := zbo hp i _ (List.getElem?_eq_getElem hl)
  have hf : w.frozen? ⟨b, i, none⟩ = false := qb8 hp
  cases hq : P.info? T with
  | none => simp [hq] at hT
  | some q =>
   have hs : q.size = 1 := by simpa [hq] using hT
   cases v <;> simp [execOp, zax hx, zax hy, Instr.storeAt, Instr.sureAddr, storeVar, sizeOf, typeInfo, hq, hs, h1, storeCells, store, Addr.add, Sem.run, hc, hf] at h2 ⊢ <;> cases h2)
theorem ziv {T e : TypeId} {x : Operand} {b i c n sz : Nat} {v : Value} {xs : List Value} (hx : evO l x = some (.pointer (some ⟨b, i, none⟩))) (hT : zot P T = true) (hm : own e sz (some (b, c)) n xs ∈ m) (hv : xs[i]? = some v) : OV P (.load T x) ty l (Hp w0 F m) v :=
 zaz hx hT (fun _ hw => zbo (hw.item _ hm).1 i v hv)
theorem Hp.front {w : World} {e : TypeId} {sz n b c : Nat} {xs : List Value} (hw : Hp w0 F (own e sz (some (b, c)) n xs :: m) w) (k : Nat) (hk : k ≤ n) : Hp w0 F (own e sz (some (b, c)) k (xs.take (k * sz)) :: m) w :=
 hw.imp (fun _ h => h) (fun h => by
  obtain ⟨h1, h2, cur, h3, h4, h5⟩ := h.2
  have : k * sz ≤ n * sz := Nat.mul_le_mul_right _ hk
  exact ⟨by have := h.1; rw [List.length_take]; omega, by omega, h2, cur, h3, h4, by rw [← h5, List.take_take, Nat.min_eq_left this]⟩) (zab _ _ _ _ _ _)
theorem qpf {T e : TypeId} {x y : Operand} {p : Option Addr} {n c sz : Nat} {k : IntKind} {a : Int} {i : Nat} [h : NatOf a i] (hx : evO l x = some (.slice p n c)) (hy : evO l y = some (.int k a)) (hT : zka P T = some e) (he : zc1 P e = some sz) (hi : i ≤ c) : OV P (.slice T x none (some y) none) ty l H (.slice p i c) := ov fun _ _ _ w _ => by
 obtain rfl := h.eq
 have hu := zbm hT
 have hu' : P.underlying T = some (.slice (P.elem T)) := by rw [hu]; simp [Program.elem, hu]
 have he' : P.elem T = e := by simp [Program.elem, hu]
 obtain ⟨q, hq, hqs⟩ := zbp he
 have h := run_slice_h (P := P) w T p n c hu' k i (by omega) (by omega)
 have hz : (sizeOf (P.elem T)).run P w = .ok sz w := by rw [he']; simp [sizeOf, typeInfo, hq, hqs]
 simp only [execOp, zax hx, Option.map_some, Option.map_none, zax hy, Sem.run_bind, run_sliceAt_slice w T _ _ _ _ hu', h, hz, Result.andThen_ok, Int.toNat_natCast, sliced]
 cases p <;> simp [Sem.run_pure, Addr.add]
theorem qpq {T : Array TypeId} {x y : Operand} {k k' : IntKind} {a b : Int} {i j : Nat} [h : NatOf a i] [h' : NatOf b j] (hx : evO l x = some (.int k a)) (hy : evO l y = some (.int k' b)) : OV P (.call ⟨.builtin .min, #[x, y], T⟩) ty l H (.int k (min i j : Nat)) := ov fun _ _ _ w _ => by
 obtain rfl := h.eq; obtain rfl := h'.eq
 simp only [execOp, resolve, invoke, builtin]
 simp [zax hx, zax hy, run_min_int2]
 split <;> omega
def qov (P : Program) (T : TypeId) : Option IntKind := match P.underlying T with | some (.int k) => some k | _ => none
theorem zwi {T : TypeId} {k : IntKind} (h : qov P T = some k) : P.underlying T = some (.int k) := by
 unfold qov at h
 split at h
 ·rename_i hu; rw [hu, Option.some.inj h]
 ·cases h
theorem qlv {S T : TypeId} {x : Operand} {k k' : IntKind} {a : Int} {n L : Nat} [h : NatOf a n] [hL : Lim k' L] (hx : evO l x = some (.int k a)) (hS : (P.underlying S).isSome = true) (hT : qov P T = some k') (hn : n < L) : OV P (.convert S T x) ty l H (.int k' (n : Int)) := ov fun _ _ _ w _ => by
 obtain rfl := h.eq
 obtain ⟨u, hu⟩ := Option.isSome_iff_exists.1 hS
 simp only [execOp, zax hx, convert, Sem.run_bind, run_underlying hu w, run_underlying (zwi hT) w, Result.andThen_ok, Conv.intToInt, Sem.run_pure, hL.wrap n hn]
/-! ### what memory tells -/
theorem zea {p : Prop} (hf : ∀ w, H w → p) (k : p → HL P ops Q N rest l H) : HL P ops Q N rest l H := by
 unfold HL at *; exact fun a w s hw => k (hf w hw) a w s hw
theorem zf2 {c : Code} {p : Prop} (hf : ∀ w, H w → p) (k : p → HT P c Q N l H) : HT P c Q N l H := by
 unfold HT at *; exact fun a w s hw => k (hf w hw) a w s hw
theorem qgw {e : Exit} {p : Prop} (hf : ∀ w, H w → p) (k : p → HX Q e N l H) : HX Q e N l H := by
 unfold HX at *; exact fun a w s hw => k (hf w hw) a w s hw
theorem qka {n : Nat} {listed : Array Bool} {p : Prop} (hf : ∀ w, H w → p) (k : p → HD P ops Q S t N n listed l H) : HD P ops Q S t N n listed l H := by
 unfold HD at *; exact fun i a w s hw => k (hf w hw) i a w s hw
/-! ### calls that hand over items -/
theorem ze5 {f : FuncId} {xs : List Operand} {tys : Array TypeId} {vs : List Value} {α : Type} {val : α → Value} {φ : α → Prop} {its : α → List Item} (hg : okG ops l g = true) (hok : zfj N l (.call ⟨.value (.func f), xs.toArray, tys⟩) d = true) (hb : zb9 P f = true) (hx : evs l xs = some vs)
  (hc : ∀ w, Hp w0 F m w → Ct P f vs.toArray w none' val φ its) (k : ∀ x, φ x → HL P ops Q N rest ((d, val x) :: l) (Hp w0 F (its x ++ m))) : HL P ops Q N (⟨some d, .call ⟨.value (.func f), xs.toArray, tys⟩, ty, pos, after, g⟩ :: rest) l (Hp w0 F m) :=
 zae hg (qck hok hb hx hc) fun x => k x.1 x.2
theorem qqh (i : Nat) {f : FuncId} {xs : List Operand} {tys : Array TypeId} {vs : List Value} {n : Nat} {listed : Array Bool} {α : Type} {val : α → Value} {φ : α → Prop} {its : α → List Item} {m0 : List Item} (hr0 : Region.ready .any ops listed = [i] ∧ i < t) (hi0 : nth ops.toList i = some ⟨some d, .call ⟨.value (.func f), xs.toArray, tys⟩, ty, pos, after, g⟩) (hg : okG ops l g = true)
  (hok : zfj N l (.call ⟨.value (.func f), xs.toArray, tys⟩) d = true) (hb : zb9 P f = true) (hx : evs l xs = some vs) (hS : ∀ w, Hp w0 F m w → Hp w0 F m0 w)
  (hc : ∀ w, Hp w0 F m w → Ct P f vs.toArray w none' val φ its) (k : ∀ x, φ x → HD P ops Q (Hp w0 F (its x ++ m)) t N n (listed.setIfInBounds i true) ((d, val x) :: l) (Hp w0 F (its x ++ m))) : HD P ops Q (Hp w0 F m0) t N (n + 1) listed l (Hp w0 F m) :=
 zau i hr0 hi0 hg (qck hok hb hx hc) (fun _ w h => hS w (h.sub (List.sublist_append_right _ _))) fun x => qq9 (fun w h => hS w (h.sub (List.sublist_append_right _ _))) (k x.1 x.2)
/-! ### function values -/
theorem zl4 {f : FuncId} {x : Operand} {fs cs : List Value} {xs : List Operand} {tys : Array TypeId} {vs us : List Value} {v : Value} (hok : zfj N l (.call ⟨.value x, xs.toArray, tys⟩) d = true) (hb : zb9 P f = true) (hf : evO l x = some (.func (.func f) fs.toArray cs.toArray)) (hx : evs l xs = some vs) (hu : fs ++ (vs ++ cs) = us)
  (hc : ∀ w, Hp w0 F m w → Pu P f us.toArray w v) : HO P ⟨some d, .call ⟨.value x, xs.toArray, tys⟩, ty, pos, after, g⟩ Q N l (Hp w0 F m) (α := Unit) (fun _ => (d, v) :: l) (fun _ => Hp w0 F m) :=
 zry (val := fun _ => v) hok (zyx hf hb hx hu) (fun w hw => (hc w hw).calls.mono fun _ _ ⟨he, hf⟩ => ⟨(), he, hw.keep hf⟩)
/-! ### slices of strings -/
def qmu (L : List ByteArray) : List Value := L.map Value.string
structure qd3 (w : World) (a : Option Addr) (c : Nat) (L : List ByteArray) : Prop where
 rd : Rd w a (qmu L)
 cap : L.length ≤ c
theorem qlk {L : List ByteArray} {i : Nat} (h : i < L.length) : (qmu L)[i]? = some (.string L[i]) := by simp [qmu, h]
theorem zca {b off c i sz : Nat} (hc : c ≠ i) : zqr (some ⟨b, off, none⟩) (decide (c = i)) (i * sz) = some ⟨b, off + i * sz, none⟩ := by
 simp only [zqr, decide_eq_false hc, Bool.false_eq_true, if_false, Option.map_some, zc8]
theorem qd3.drop {w : World} {a : Option Addr} {c : Nat} {L : List ByteArray} (h : qd3 w a c L) (i : Nat) (hi : i ≤ L.length) : qd3 w (zqr a (decide (c = i)) (i * 1)) (c - i) (L.drop i) := by
 refine ⟨?_, by have := h.cap; simp; omega⟩
 by_cases e : L.drop i = []
 ·exact .inl (by rw [e]; rfl)
 ·have hlt : i < L.length := by simpa using e
  have := h.cap
  rcases h.rd with h1 | ⟨b, off, rfl, h2⟩
  ·simp [qmu] at h1; subst h1; simp at hlt
  ·refine .inr ⟨b, off + i * 1, zca (by omega), fun j u hu => ?_⟩
   rw [show off + i * 1 + j = off + (i + j) by omega]
   refine h2 _ _ ?_
   simpa [qmu] using hu
theorem qd3.keep {w : World} {a : Option Addr} {c : Nat} {L : List ByteArray} (h : qd3 w0 a c L) (hw : Hp w0 none' m w) : qd3 w a c L := ⟨h.rd.keep hw, h.cap⟩
theorem qd3.fr {w : World} {a : Option Addr} {c : Nat} {L : List ByteArray} (h : qd3 w0 a c L) (hw : Fr none' w0 w) : qd3 w a c L := ⟨h.rd.fr hw, h.cap⟩
theorem qd3.at_ {w : World} {a : Option Addr} {c : Nat} {L : List ByteArray} (h : qd3 w a c L) (h0 : 0 < L.length) : ∃ b off, a = some ⟨b, off, none⟩ ∧ ∀ i (hi : i < L.length), w.cell? ⟨b, off + i, none⟩ = some (.string L[i]) := by
 rcases h.rd with h1 | ⟨b, off, rfl, h2⟩
 ·simp [qmu] at h1; subst h1; simp at h0
 ·exact ⟨b, off, rfl, fun i hi => h2 i _ (qlk hi)⟩
/-! ### one step, whatever it is -/
theorem s_ {G X : Prop} (k : G) (h : G → X := by first | with_reducible (first | exact zv6 | exact zsq | exact zx0 | exact qmp | exact qe0 | exact qdh | exact zye | exact zm3 | exact zj5 | exact zmf | exact zkc | exact zg6 | exact zi3 | fail) | with_reducible exact zj1 rfl | exact l_w rfl (by first | exact zhd rfl | exact zez rfl | exact qd5 rfl rfl | exact zdy rfl rfl | exact zdi rfl rfl | exact zfu rfl rfl | exact zil rfl rfl | exact zey rfl rfl | exact qc5 rfl | exact zev rfl rfl (by repeat first | exact .head _ | apply List.Mem.tail) | exact zc6 rfl rfl (by repeat first | exact .head _ | apply List.Mem.tail) rfl | exact zd3 rfl rfl (by repeat first | exact .head _ | apply List.Mem.tail) | exact zpf rfl rfl rfl | ((first | refine qcl rfl rfl ?_ | refine zmj rfl rfl rfl ?_ | refine zpk rfl rfl rfl ?_ | refine qdl rfl rfl rfl ?_ | refine qep rfl rfl rfl ?_ | refine qe3 rfl rfl rfl ?_ | refine zoy rfl rfl rfl rfl ?_ | refine qfi rfl rfl rfl rfl ?_ | refine qdb rfl rfl rfl ?_ | refine qf3 rfl rfl rfl ?_); first | omega | assumption | fail) | exact qc3 rfl rfl (by first | omega | assumption | (simp; done) | fail) | exact qf5 rfl rfl (by first | omega | assumption | (simp; done) | fail) | exact zgo rfl rfl rfl | fail) | exact qpj rfl | exact t_T rfl rfl (by first | omega | assumption | (simp; done) | fail) | exact t_F rfl rfl (by first | omega | assumption | (simp; done) | fail) | exact l_T rfl rfl (by first | omega | assumption | (simp; done) | fail) | exact l_F rfl rfl (by first | omega | assumption | (simp; done) | fail) | fail) : X := h k
theorem d_ {G X : Prop} (k : G) (h : G → X := by first | exact d_w [] rfl rfl rfl (by kernel_rfl) (fun _ h => h) (by first | exact zhd rfl | exact zez rfl | exact qd5 rfl rfl | exact zdy rfl rfl | exact zdi rfl rfl | exact zfu rfl rfl | exact zil rfl rfl | exact zey rfl rfl | exact qc5 rfl | exact zev rfl rfl (by repeat first | exact .head _ | apply List.Mem.tail) | exact zc6 rfl rfl (by repeat first | exact .head _ | apply List.Mem.tail) rfl | exact zd3 rfl rfl (by repeat first | exact .head _ | apply List.Mem.tail) | exact zpf rfl rfl rfl | ((first | refine qcl rfl rfl ?_ | refine zmj rfl rfl rfl ?_ | refine zpk rfl rfl rfl ?_ | refine qdl rfl rfl rfl ?_ | refine qep rfl rfl rfl ?_ | refine qe3 rfl rfl rfl ?_ | refine zoy rfl rfl rfl rfl ?_ | refine qfi rfl rfl rfl rfl ?_ | refine qdb rfl rfl rfl ?_ | refine qf3 rfl rfl rfl ?_); first | omega | assumption | fail) | exact qc3 rfl rfl (by first | omega | assumption | (simp; done) | fail) | exact qf5 rfl rfl (by first | omega | assumption | (simp; done) | fail) | exact zgo rfl rfl rfl | fail) | exact qj8 [] rfl rfl rfl (by kernel_rfl) (fun _ h => h) | exact d_T [] rfl rfl rfl rfl (by first | omega | assumption | (simp; done) | fail) | exact d_F [] rfl rfl rfl rfl (by first | omega | assumption | (simp; done) | fail) | fail) : X := h k
end Go.Eng
