/- Operations on integers, said over natural numbers: lemmas for the calculus. Own work; no condition. -/
/- Slices and strings: lemmas for the calculus, over the guide's run equations. Own work; no condition. -/
/- '==' between values that are made of integers, bools and strings: as their cells are. Own work; no condition. -/
/- Bytes as strings. -/
/- A guarded operation of a region that draws. -/
/- What a guard says, zem from the context. Own work; no condition. -/
/- Strings and slices: slicing, '==', '+'; strings in memory. Own work; no condition. -/
import Derived.Test.YtkkfifhaobjicaaGreatDoorHb00
import Derived.IntWalk
import Derived.Laws.MakeOwn
import Derived.Laws.Append
import Derived.Laws.AppendOwn
import Derived.Laws.IdiomStrings
import Derived.Laws.BytesString
import Derived.Laws.StructEq
import Derived.Laws.Strings2
import Derived.Laws.Strings3
namespace Go.Eng
open Go.RowKit
variable {P : Program} {l : zat} {H : World → Prop} {ty xt yt : TypeId} {x y : Operand} {a b : Nat}
theorem zzj (n : Int) (h0 : -9223372036854775808 ≤ n) (h1 : n < 9223372036854775808) : IntKind.i64.wrap n = n := by
  simp [IntKind.wrap, IntKind.bits, IntKind.signed]; omega
theorem zuw {op : Op} {v v' : Value} (h : OV P op ty l H v) (e : v = v') : OV P op ty l H v' := e ▸ h
theorem zf1 {op : BinOp} {vx vy v : Value} (hx : evO l x = some vx) (hy : evO l y = some vy) (h : ∀ w, (do eqGuard op xt x y vx vy; binOp op xt vx vy : Sem Value).run P w = .ok v w) : OV P (.binOp op xt x y yt) ty l H v := ov fun _ _ _ w _ => by
  simp only [execOp, zax hx, zax hy]
  rw [Sem.run_bind, h w]
  rfl
section i64
theorem qpl (hx : evO l x = some (.int .i64 a)) (hy : evO l y = some (.int .i64 b)) (h : a + b < 9223372036854775808) : OV P (.binOp .add xt x y yt) ty l H (.int .i64 (a + b : Nat)) :=
  zuw (zf1 hx hy fun _ => rfl) (by rw [zzj] <;> first | rfl | omega)
end i64
/-! ### Bits of unsigned kinds -/
theorem zbu (n a : Nat) : BitVec.ofInt n (a : Int) = BitVec.ofNat n a := by simp
theorem zdd (n : Nat) : IntKind.u64.wrap (n : Int) = ((n % 18446744073709551616 : Nat) : Int) := by
  simp [IntKind.wrap, IntKind.bits, IntKind.signed]
theorem zh4 (n : Nat) : IntKind.u8.wrap (n : Int) = ((n % 256 : Nat) : Int) := by
  simp [IntKind.wrap, IntKind.bits, IntKind.signed]
theorem zg3 (n : Nat) : IntKind.u32.wrap (n : Int) = ((n % 4294967296 : Nat) : Int) := by
  simp [IntKind.wrap, IntKind.bits, IntKind.signed]
theorem qml (hx : evO l x = some (.int .u64 a)) (hy : evO l y = some (.int .u64 b)) (ha : a < 18446744073709551616) : OV P (.binOp .and xt x y yt) ty l H (.int .u64 (a &&& b : Nat)) :=
  zuw (zf1 hx hy fun _ => rfl) (by
    show Value.int .u64 (IntKind.u64.wrap ((BitVec.ofInt 64 a &&& BitVec.ofInt 64 b).toNat)) = _
    rw [zbu, zbu, zdd, BitVec.toNat_and, BitVec.toNat_ofNat, BitVec.toNat_ofNat]
    congr 2
    have h1 : a % 2 ^ 64 = a := Nat.mod_eq_of_lt ha
    have h2 : (a &&& b % 2 ^ 64) = (a &&& b) := by
      have := Nat.and_mod_two_pow (a := a) (b := b) (n := 64)
      rw [h1] at this
      rw [← this]
      exact Nat.mod_eq_of_lt (Nat.lt_of_le_of_lt Nat.and_le_left ha)
    rw [h1, h2]
    exact Nat.mod_eq_of_lt (Nat.lt_of_le_of_lt Nat.and_le_left ha))
theorem qnu (hx : evO l x = some (.int .u64 a)) (hy : evO l y = some (.int .u64 b)) (ha : a < 18446744073709551616) (hb : b < 18446744073709551616) : OV P (.binOp .or xt x y yt) ty l H (.int .u64 (a ||| b : Nat)) :=
  zuw (zf1 hx hy fun _ => rfl) (by
    show Value.int .u64 (IntKind.u64.wrap ((BitVec.ofInt 64 a ||| BitVec.ofInt 64 b).toNat)) = _
    rw [zbu, zbu, zdd, BitVec.toNat_or, BitVec.toNat_ofNat, BitVec.toNat_ofNat]
    congr 2
    rw [Nat.mod_eq_of_lt (show a < 2 ^ 64 from ha), Nat.mod_eq_of_lt (show b < 2 ^ 64 from hb)]
    exact Nat.mod_eq_of_lt (Nat.or_lt_two_pow (n := 64) ha hb))
theorem qaz (hx : evO l x = some (.int .u64 a)) (hy : evO l y = some (.int .u64 b)) (ha : a < 18446744073709551616) (hb : b < 18446744073709551616) : OV P (.binOp .andNot xt x y yt) ty l H (.int .u64 (a &&& (18446744073709551615 ^^^ b) : Nat)) :=
  zuw (zf1 hx hy fun _ => rfl) (by
    show Value.int .u64 (IntKind.u64.wrap ((BitVec.ofInt 64 a &&& ~~~ BitVec.ofInt 64 b).toNat)) = _
    rw [zbu, zbu, zdd, BitVec.toNat_and, BitVec.toNat_not, BitVec.toNat_ofNat, BitVec.toNat_ofNat]
    congr 2
    rw [Nat.mod_eq_of_lt (show a < 2 ^ 64 from ha), Nat.mod_eq_of_lt (show b < 2 ^ 64 from hb)]
    have e : 2 ^ 64 - 1 - b = 18446744073709551615 ^^^ b := by
      have := BitVec.toNat_not (x := BitVec.ofNat 64 b)
      rw [BitVec.toNat_ofNat, Nat.mod_eq_of_lt (show b < 2 ^ 64 from hb)] at this
      rw [← this, ← BitVec.allOnes_xor, BitVec.toNat_xor, BitVec.toNat_ofNat, Nat.mod_eq_of_lt (show b < 2 ^ 64 from hb)]
      rfl
    rw [e]
    exact Nat.mod_eq_of_lt (Nat.lt_of_le_of_lt Nat.and_le_left ha))
theorem qpx (hx : evO l x = some (.int .u8 a)) (hy : evO l y = some (.int .u8 b)) (ha : a < 256) (hb : b < 256) : OV P (.binOp .or xt x y yt) ty l H (.int .u8 (a ||| b : Nat)) :=
  zuw (zf1 hx hy fun _ => rfl) (by
    show Value.int .u8 (IntKind.u8.wrap ((BitVec.ofInt 8 a ||| BitVec.ofInt 8 b).toNat)) = _
    rw [zbu, zbu, zh4, BitVec.toNat_or, BitVec.toNat_ofNat, BitVec.toNat_ofNat]
    congr 2
    rw [Nat.mod_eq_of_lt (show a < 2 ^ 8 from ha), Nat.mod_eq_of_lt (show b < 2 ^ 8 from hb)]
    exact Nat.mod_eq_of_lt (Nat.or_lt_two_pow (n := 8) ha hb))
/-! ### A constant on the right -/
section const
theorem qer (hx : evO l x = some (.int .u64 a)) (hy : evO l y = some (.int .u64 1)) : OV P (.binOp .and xt x y yt) ty l H (.int .u64 (a % 2 : Nat)) :=
  zuw (zf1 hx hy fun _ => rfl) (by
    show Value.int .u64 (IntKind.u64.wrap ((BitVec.ofInt 64 a &&& BitVec.ofInt 64 (1 : Nat)).toNat)) = _
    rw [zbu, zbu, zdd, BitVec.toNat_and, BitVec.toNat_ofNat, BitVec.toNat_ofNat]
    congr 2
    rw [show 1 % 2 ^ 64 = 1 from rfl, Nat.and_one_is_mod]
    omega)
theorem qhu (hx : evO l x = some (.int .u8 a)) (hy : evO l y = some (.int .u8 1)) : OV P (.binOp .and xt x y yt) ty l H (.int .u8 (a % 2 : Nat)) :=
  zuw (zf1 hx hy fun _ => rfl) (by
    show Value.int .u8 (IntKind.u8.wrap ((BitVec.ofInt 8 a &&& BitVec.ofInt 8 (1 : Nat)).toNat)) = _
    rw [zbu, zbu, zh4, BitVec.toNat_and, BitVec.toNat_ofNat, BitVec.toNat_ofNat]
    congr 2
    rw [show 1 % 2 ^ 8 = 1 from rfl, Nat.and_one_is_mod]
    omega)
theorem qkz {c x y : Operand} {v : Value} {b : Bool} (hc : evO l c = some (.bool b)) (hb : b = true) (hx : evO l x = some v) : OV P (.pick c x y) ty l H v := ov fun _ _ _ w _ => by
  subst hb
  simp only [execOp, zax hc, zax hx]; rfl
theorem qms {c x y : Operand} {v : Value} {b : Bool} (hc : evO l c = some (.bool b)) (hb : b = false) (hy : evO l y = some v) : OV P (.pick c x y) ty l H v := ov fun _ _ _ w _ => by
  subst hb
  simp only [execOp, zax hc, zax hy]; rfl
theorem zgo {c x y : Operand} {b u v : Bool} (hc : evO l c = some (.bool b)) (hx : evO l x = some (.bool u)) (hy : evO l y = some (.bool v)) : OV P (.pick c x y) ty l H (.bool (bif b then u else v)) := ov fun _ _ _ w _ => by
  simp only [execOp, zax hc, zax hx, zax hy]; cases b <;> rfl
theorem qhm {s : Nat} (hx : evO l x = some (.int .u64 a)) (hy : evO l y = some (.int .u64 (@OfNat.ofNat Int s _))) (hs : (@OfNat.ofNat Nat s _) < 64) : OV P (.binOp .shr xt x y yt) ty l H (.int .u64 (a / 2 ^ (@OfNat.ofNat Nat s _) : Nat)) :=
  zf1 hx hy fun w => by
    have h0 : ¬ ((@OfNat.ofNat Int s _) < 0) := by show ¬ ((s : Int) < 0); omega
    have e : min s 64 = s := Nat.min_eq_left (Nat.le_of_lt hs)
    have e3 : (a : Int).fdiv ((2 ^ s : Nat) : Int) = ((a / 2 ^ s : Nat) : Int) := by
      rw [Int.fdiv_eq_ediv_of_nonneg _ (Int.natCast_nonneg _)]; rfl
    show ((binOp .shr xt (.int .u64 a) (.int .u64 (s : Int))).run P w) = .ok (.int .u64 ((a / 2 ^ s : Nat) : Int)) w
    have h0' : ¬ ((s : Int) < 0) := by omega
    simp only [binOp, Op.shift, h0', if_false, Int.toNat_natCast]
    rw [← e3, show min s IntKind.u64.bits = s from e]
    simp
theorem qla (hx : evO l x = some (.int .u64 a)) (hy : evO l y = some (.int .u64 (@OfNat.ofNat Int b _))) : OV P (.binOp .mul xt x y yt) ty l H (.int .u64 (a * (@OfNat.ofNat Nat b _) % 18446744073709551616 : Nat)) :=
  zuw (zf1 hx hy fun _ => rfl) (by
    have e : (a : Int) * (@OfNat.ofNat Int b _) = ((a * b : Nat) : Int) := by rw [Int.natCast_mul]; rfl
    rw [e, zdd]; rfl)
theorem qmn {t : TypeId} (hx : evO l x = some (.int .u64 a)) (ha : a < 18446744073709551616) : OV P (.unOp .xor t x) ty l H (.int .u64 (18446744073709551615 ^^^ a : Nat)) := ov fun _ _ _ w _ => by
  have e : (Op.unary .xor (.int .u64 a) : Sem Value).run P w = .ok (.int .u64 (18446744073709551615 ^^^ a : Nat)) w := by
    have h : (18446744073709551615 ^^^ a) < 18446744073709551616 := Nat.xor_lt_two_pow (n := 64) (by decide) ha
    show Result.ok (Value.int .u64 (IntKind.u64.wrap ((BitVec.ofInt 64 ((18446744073709551615 : Nat) : Int) ^^^ BitVec.ofInt 64 (a : Int)).toNat))) w = _
    rw [zbu, zbu, zdd, BitVec.toNat_xor, BitVec.toNat_ofNat, BitVec.toNat_ofNat, Nat.mod_eq_of_lt (show a < 2 ^ 64 from ha), Nat.mod_eq_of_lt (show 18446744073709551615 < 2 ^ 64 by decide), Nat.mod_eq_of_lt h]
  simp only [execOp, zax hx, Sem.run_bind, e]; rfl
theorem qk0 {t : TypeId} (hx : evO l x = some (.int .u64 a)) (h0 : 0 < a) (ha : a < 18446744073709551616) : OV P (.unOp .neg t x) ty l H (.int .u64 (18446744073709551616 - a : Nat)) := ov fun _ _ _ w _ => by
  have e : (Op.unary .neg (.int .u64 a) : Sem Value).run P w = .ok (.int .u64 (18446744073709551616 - a : Nat)) w := by
    show Result.ok (Value.int .u64 (IntKind.u64.wrap (0 - (a : Int)))) w = _
    have : IntKind.u64.wrap (0 - (a : Int)) = ((18446744073709551616 - a : Nat) : Int) := by
      simp [IntKind.wrap, IntKind.bits, IntKind.signed]; omega
    rw [this]
  simp only [execOp, zax hx, Sem.run_bind, e]; rfl
end const
variable {P : Program} {Q : Exit → Act → World → Prop} {N : Fm} {l : zat} {H : World → Prop} {ops : Array Oper} {rest : List Oper} {w0 : World} {F : Nat → Prop} {m : List Item} {ty : TypeId} {pos : String} {after : Array Edge} {g : Option (Nat × Bool)} {d : Nat}
def zka (P : Program) (T : TypeId) : Option TypeId := match P.underlying T with | some (.slice e) => some e | _ => none
theorem zbm {T e : TypeId} (h : zka P T = some e) : P.underlying T = some (.slice e) := by
  unfold zka at h
  split at h
  · rename_i hu; rw [hu, Option.some.inj h]
  · cases h
def zqb (P : Program) (e : TypeId) : Option (Nat × Nat × Value) := match P.info? e with | some ⟨_, _, sz, bt, _, _, _, some z, _, _⟩ => some (sz, bt, z) | _ => none
theorem zhj {e : TypeId} {s b : Nat} {z : Value} (h : zqb P e = some (s, b, z)) : ∃ i, P.info? e = some i ∧ i.size = s ∧ i.bytes = b ∧ i.zero = some z := by
  unfold zqb at h
  split at h
  · rename_i hi
    simp only [Option.some.injEq, Prod.mk.injEq] at h
    obtain ⟨h1, h2, h3⟩ := h
    exact ⟨_, hi, h1, h2, by rw [h3]⟩
  · cases h
theorem ztb (z : Value) (n : Nat) : madeCells #[z] n = Array.replicate n z := by
  refine Array.ext (by simp [madeCells]) fun i h1 h2 => ?_
  simp [madeCells, Nat.mod_one]
/-! ### tuples, lengths -/
theorem zdy {x : Operand} {i : Nat} {vs : Array Value} {v : Value} (hx : evO l x = some (.tuple vs)) (hi : nth vs.toList i = some v) : OV P (.extract x i) ty l H v := ov fun _ _ _ w _ => by
  have h : vs[i]? = some v := by rw [zpa] at hi; simpa using hi
  simp [execOp, zax hx, Instr.extract, h]
theorem zil {x : Operand} {T : TypeId} {a : Option Addr} {n c : Nat} (hx : evO l x = some (.slice a n c)) (hT : (zka P T).isSome = true) : OV P (.call ⟨.builtin .len, #[x], #[T]⟩) ty l H (.int .i64 n) := ov fun _ _ _ w _ => by
  obtain ⟨e, he⟩ := Option.isSome_iff_exists.1 hT
  simp [execOp, resolve, invoke, builtin, zax hx, Builtin.len_, run_underlying (zbm he) w, goInt]
theorem zey {x : Operand} {T : TypeId} {s : ByteArray} (hx : evO l x = some (.string s)) (hT : P.underlying T = some .string) : OV P (.call ⟨.builtin .len, #[x], #[T]⟩) ty l H (.int .i64 s.size) := ov fun _ _ _ w _ => by
  simp [execOp, resolve, invoke, builtin, zax hx, Builtin.len_, run_underlying hT w, goInt]
/-! ### make -/
theorem qoi {T e : TypeId} {x y : Operand} {n b : Nat} {z : Value} {k : IntKind} (hok : zfj N l (.makeSlice T x y) d = true) (hx : evO l x = some (.int k n)) (hy : evO l y = some (.int k n))
    (hT : zka P T = some e) (hi : zqb P e = some (1, b, z)) (hz : z.cells = #[z]) (hb : b * n ≤ 281474976710656) (hn : n ≤ 9223372036854775807) :
    HO P ⟨some d, .makeSlice T x y, ty, pos, after, g⟩ Q N l (Hp w0 F m) (α := { b : Nat // w0.heap.size ≤ b }) (fun c => (d, .slice (some ⟨c.1, 0, none⟩) n n) :: l) (fun c => Hp w0 F (pt c.1 (.cells (Array.replicate n z) e (0, 0)) :: m)) :=
  zhr (val := fun c : { b : Nat // w0.heap.size ≤ b } => .slice (some ⟨c.1, 0, none⟩) n n) hok (fun w hw => by
    obtain ⟨i, h1, h2, h3, h4⟩ := zhj hi
    refine ⟨⟨w.heap.size, hw.fr.size⟩, w.alloc (.cells (Array.replicate n z) e), ?_, hw.alloc _⟩
    have hr := run_make (P := P) w T e i z (zbm hT) h1 h4 k k n n (by omega) (by omega) (by rw [h3]; generalize hq : b * n = q at hb; rw [← Int.natCast_mul, hq]; omega) (by omega)
    rw [h2, Nat.mul_one, Int.toNat_natCast, hz, ztb] at hr
    simp only [execOp, zax hx, zax hy, Sem.run_bind, hr, Result.andThen_ok, Sem.run_pure])
theorem qjj {T e : TypeId} {x y : Operand} {n b : Nat} {z : Value} {k : IntKind} (hok : zfj N l (.makeSlice T x y) d = true) (hx : evO l x = some (.int k n)) (hy : evO l y = some (.int k n))
    (hT : zka P T = some e) (hi : zqb P e = some (1, b, z)) (hz : z.cells = #[z]) (hb : b * n ≤ 281474976710656) (hn : n ≤ 9223372036854775807)
    (k' : ∀ c, w0.heap.size ≤ c → HL P ops Q N rest ((d, .slice (some ⟨c, 0, none⟩) n n) :: l) (Hp w0 F (pt c (.cells (Array.replicate n z) e (0, 0)) :: m))) :
    HL P ops Q N (⟨some d, .makeSlice T x y, ty, pos, after, none⟩ :: rest) l (Hp w0 F m) := za0 rfl (qoi hok hx hy hT hi hz hb hn) fun c => k' c.1 c.2
/-! ### reads -/
theorem zet {T : TypeId} {x : Operand} {a : Addr} {v : Value} (hx : evO l x = some (.pointer (some a))) (hT : zot P T = true) (hF : ¬ F a.block) (hv : w0.cell? a = some v) : OV P (.load T x) ty l (Hp w0 F m) v :=
  zaz hx hT (fun _ hw => hw.old hF hv)
theorem qk6 {T : TypeId} {x y : Operand} {s : ByteArray} {k : IntKind} {i : Nat} (hx : evO l x = some (.string s)) (hy : evO l y = some (.int k i)) (hT : P.underlying T = some .string) (hi : i < s.size) : OV P (.index T x y) ty l H (.int .u8 (s[i].toNat : Nat)) := ov fun _ _ _ w _ => by
  have : s[i]? = some s[i] := by simp [hi]
  simp [execOp, zax hx, zax hy, Instr.index, asIntOf, run_underlying hT w, this]
theorem qds {T e : TypeId} {x y : Operand} {cs : Array Value} {k : IntKind} {i n : Nat} {v : Value} (hx : evO l x = some (.agg cs)) (hy : evO l y = some (.int k i)) (hT : P.underlying T = some (.array n e)) (he : zc1 P e = some 1) (ho : zot P e = true) (hi : i < n) (hv : cs[i]? = some v) : OV P (.index T x y) ty l H v := ov fun _ _ _ w _ => by
  obtain ⟨q, hq, hqs⟩ := zbp he
  have hagg : (isAgg e).run P w = .ok false w := by
    unfold zot at ho
    cases hu : P.underlying e with
    | none => simp [hu] at ho
    | some d =>
      unfold isAgg
      rw [Sem.run_bind, run_underlying hu w]
      cases d <;> simp_all
  simp [execOp, zax hx, zax hy, Instr.index, asIntOf, run_underlying hT w, hi, sizeOf, typeInfo, hq, hqs, part, hagg, hv]
/-! ### a store into whatever place of the item list; marks of other cells do not matter -/
/-! ### append to nil of a slice that is there -/
/-! ### composite literals -/
def over (cs : List Value) (off : Nat) (vs : List Value) : List Value := cs.take off ++ vs ++ cs.drop (off + vs.length)
theorem qhq : ∀ (vs : List Value) (k off : Nat) (cs : Array Value), off + k + vs.length ≤ cs.size →
    ((vs.zipIdx k).foldl (fun cs (p : Value × Nat) => cs.setIfInBounds (off + p.2) p.1) cs).toList = over cs.toList (off + k) vs := by
  intro vs
  induction vs with
  | nil => intro k off cs _; simp [over]
  | cons v r ih =>
    intro k off cs h
    simp only [List.length_cons] at h
    rw [List.zipIdx_cons, List.foldl_cons, ih (k + 1) off _ (by simp; omega)]
    have hlt : off + k < cs.toList.length := by simp; omega
    simp only [over, Array.toList_setIfInBounds, List.length_cons]
    rw [show off + (k + 1) = off + k + 1 by omega, List.take_succ_eq_append_getElem (by simpa using hlt), List.drop_set_of_lt (by omega)]
    have e1 : (cs.toList.set (off + k) v).take (off + k) = cs.toList.take (off + k) := by
      rw [List.take_set_of_le (by omega)]
    rw [e1]
    simp
    congr 1
    omega
def zei (z : List Value) : List (Nat × Nat × Value) → List Value
  | [] => z
  | p :: r => zei (over z p.1 p.2.2.cells.toList) r
def zxm (n : Nat) (L : List (Nat × Nat × Value)) : Prop := ∀ p ∈ L, p.2.2.cells.size = p.2.1 ∧ p.1 + p.2.1 ≤ n
def zdh (n : Nat) : List (Nat × Nat × Value) → Bool
  | [] => true
  | p :: r => (Nat.beq p.2.2.cells.size p.2.1 && Nat.ble (p.1 + p.2.1) n) && zdh n r
theorem zf4 {n : Nat} : ∀ {L : List (Nat × Nat × Value)}, zdh n L = true → zxm n L
  | [], _ => fun _ h => nomatch h
  | p :: r, h => by
    simp only [zdh, Bool.and_eq_true] at h
    intro q hq
    rcases List.mem_cons.1 hq with rfl | hq
    · exact ⟨Nat.eq_of_beq_eq_true h.1.1, Nat.le_of_ble_eq_true h.1.2⟩
    · exact zf4 h.2 q hq
theorem zp9 (cs : List Value) (off : Nat) (vs : List Value) (h : off + vs.length ≤ cs.length) : (over cs off vs).length = cs.length := by
  simp [over]; omega
theorem zt7 {place : Nat → Option (Nat × Nat)} : ∀ (L : List (Nat × Nat × Value)) (ps : List (Nat × Value)) (z : Array Value), ps.length = L.length → (∀ (j : Nat) p q, ps[j]? = some p → L[j]? = some q → place p.1 = some (q.1, q.2.1) ∧ p.2 = q.2.2) → zxm z.size L →
    Instr.fill place z ps = some (zei z.toList L).toArray := by
  intro L
  induction L with
  | nil => intro ps z h _ _; obtain rfl : ps = [] := by cases ps <;> simp_all
           simp [Instr.fill, zei]
  | cons q L ih =>
    intro ps z h hp hk
    match ps, h with
    | p :: ps, h =>
      obtain ⟨h1, h2⟩ := hp 0 p q rfl rfl
      obtain ⟨k1, k2⟩ := hk q (by simp)
      obtain ⟨pi, pv⟩ := p
      simp only at h1 h2
      subst h2
      have hfs := qhq q.2.2.cells.toList 0 q.1 z (by simp; omega)
      simp only [Nat.add_zero] at hfs
      have hz : q.2.2.cells.zipIdx.foldl (fun cs (p : Value × Nat) => cs.setIfInBounds (q.1 + p.2) p.1) z = (over z.toList q.1 q.2.2.cells.toList).toArray := by
        rw [← hfs, Array.toArray_toList, ← Array.foldl_toList, Array.toList_zipIdx]
      simp only [Instr.fill, h1]
      rw [if_neg (by simp [k1]; omega)]
      have hl := zp9 z.toList q.1 q.2.2.cells.toList (by simp; omega)
      have := ih ps (over z.toList q.1 q.2.2.cells.toList).toArray (by simpa using h) (fun j p' q' hj hj' => hp (j + 1) p' q' (by simpa using hj) (by simpa using hj')) (fun p' hp' => by
        have := hk p' (by simp [hp'])
        simp only [List.size_toArray]
        rw [hl]
        simpa using this)
      rw [hz, this]
      rfl
def zxg (P : Program) (fs : List Field) (i : Nat) : Option (Nat × Nat) := match nth fs i with
  | some ⟨_, t, off, _, _, _, _⟩ => (match zc1 P t with | some n => some (off, n) | none => none)
  | none => none
def zou (P : Program) (fs : List Field) (l : zat) : List (Nat × Operand) → Option (List (Nat × Nat × Value))
  | [] => some []
  | (i, x) :: r => match zxg P fs i, evO l x, zou P fs l r with
    | some (off, n), some v, some L => some ((off, n, v) :: L)
    | _, _, _ => none
theorem zni {fs : List Field} : ∀ {ps : List (Nat × Operand)} {L : List (Nat × Nat × Value)}, zou P fs l ps = some L → ps.length = L.length ∧ ∀ (j : Nat) p q, (ps.map fun p => (p.1, ev l p.2))[j]? = some p → L[j]? = some q → zxg P fs p.1 = some (q.1, q.2.1) ∧ p.2 = q.2.2
  | [], L, h => by simp only [zou, Option.some.injEq] at h; subst h; simp
  | (i, x) :: r, L, h => by
    simp only [zou] at h
    split at h
    · rename_i off n v L' h1 h2 h3
      simp only [Option.some.injEq] at h
      subst h
      obtain ⟨a, b⟩ := zni h3
      refine ⟨by simp [a], fun j p q hp hq => ?_⟩
      cases j with
      | zero =>
        simp only [List.map_cons, List.getElem?_cons_zero, Option.some.injEq] at hp hq
        subst hp; subst hq
        exact ⟨h1, zax h2⟩
      | succ j => exact b j p q (by simpa using hp) (by simpa using hq)
    · cases h
def ztm (P : Program) (fs : List Field) : Bool := fs.all fun f => (zc1 P f.type).isSome
theorem zwy {fs : List Field} (h : ztm P fs = true) (w : World) : (fs.mapM (m := Sem) fun f => do pure (f.offset, ← sizeOf f.type)).run P w = .ok (fs.map fun f => (f.offset, ((zc1 P f.type).getD 0))) w := by
  induction fs with
  | nil => rfl
  | cons f fs ih =>
    simp only [ztm, List.all_cons, Bool.and_eq_true] at h
    obtain ⟨n, hn⟩ := Option.isSome_iff_exists.1 h.1
    obtain ⟨q, hq, hqs⟩ := zbp hn
    rw [List.mapM_cons]
    have ih' := ih h.2
    have hsz : (sizeOf f.type).run P w = .ok n w := by simp [sizeOf, typeInfo, hq, hqs]
    simp only [Sem.run_bind, hsz, Result.andThen_ok, Sem.run_pure, ih', List.map_cons, hn, Option.getD_some]
theorem zk8 {T : TypeId} {fs : Array Field} {z : Array Value} {ps : List (Nat × Operand)} {L : List (Nat × Nat × Value)} (hT : P.underlying T = some (.struct fs)) (hf : ztm P fs.toList = true) (hz : (P.info? T).bind (·.zero) = some (.agg z)) (hp : zou P fs.toList l ps = some L) (hkb : zdh z.size L = true) :
    OV P (.build T ps.toArray) ty l H (.agg (zei z.toList L).toArray) := ov fun _ _ _ w _ => by
  obtain ⟨h1, h2⟩ := zni hp
  have hk := zf4 hkb
  have hzr : (zeroValue T).run P w = .ok (.agg z) w := by
    cases hq : P.info? T with
    | none => simp [hq] at hz
    | some i =>
      have hz' : i.zero = some (.agg z) := by simpa [hq] using hz
      simp [zeroValue, typeInfo, hq, hz']
  have hm : (fs.mapM (m := Sem) fun f => do pure (f.offset, ← sizeOf f.type)).run P w = .ok (fs.toList.map fun f => (f.offset, ((zc1 P f.type).getD 0))).toArray w := by
    have := zwy hf w
    rw [← Array.toArray_toList (xs := fs)]
    rw [List.mapM_toArray]
    change ((List.mapM (m := Sem) (fun f : Field => do pure (f.offset, ← sizeOf f.type)) fs.toList) >>= fun r => pure r.toArray).run P w = _
    rw [Sem.run_bind, this]
    rfl
  have hfill := zt7 (place := fun i => ((fs.toList.map fun f => (f.offset, ((zc1 P f.type).getD 0))).toArray[i]?)) L (ps.map fun p => (p.1, ev l p.2)) z (by simpa using h1) (fun j p q hp hq => by
    obtain ⟨a, b⟩ := h2 j p q hp hq
    refine ⟨?_, b⟩
    unfold zxg at a
    split at a
    · rename_i nm t off e1 e2 e3 e4 hn
      rw [zpa] at hn
      split at a
      · rename_i n hc
        simp only [Option.some.injEq, Prod.mk.injEq] at a
        obtain ⟨rfl, rfl⟩ := a
        simp [hn, hc]
      · cases a
    · cases a) hk
  have hps : (ps.toArray.map fun (x : Nat × Operand) => match x with | (i, x) => (i, ev l x)) = (ps.map fun p => (p.1, ev l p.2)).toArray := by simp
  simp only [execOp, hps, Instr.build, Sem.run_bind, hzr, Result.andThen_ok, run_underlying hT w, Value.cells, hm, hfill]
  rfl
variable {P : Program}
def zpp (rec : TypeId → Option (List TypeId)) : Nat → List Field → Option (List TypeId)
  | _, [] => some []
  | off, f :: fs => if f.offset = off ∧ f.name ≠ "_" then (match rec f.type with | some ls => (match zpp rec (off + ls.length) fs with | some r => some (ls ++ r) | none => none) | none => none) else none
def qpo (ls : List TypeId) : Nat → List TypeId
  | 0 => []
  | n + 1 => ls ++ qpo ls n
def zpy (P : Program) : Nat → TypeId → Option (List TypeId)
  | 0, _ => none
  | d + 1, T => match P.underlying T with
    | some (.int _) | some .bool | some .string => if zc1 P T = some 1 then some [T] else none
    | some (.struct fs) => if P.stoodInHeld T then none else (match zc1 P T, zpp (zpy P d) 0 fs.toList with | some n, some ls => if n = ls.length then some ls else none | _, _ => none)
    | some (.array n e) => (match zpy P d e with | some ls => if zc1 P e = some ls.length ∧ zc1 P T = some (qpo ls n).length then some (qpo ls n) else none | none => none)
    | _ => none
variable {P : Program} {Q : Exit → Act → World → Prop} {N : Fm} {l : zat} {H : World → Prop} {ops : Array Oper} {rest : List Oper} {w0 : World} {F : Nat → Prop} {m : List Item} {ty : TypeId} {pos : String} {after : Array Edge} {g : Option (Nat × Bool)} {d : Nat}
def zys (w : World) (sl : Option Addr) (L : Nat) (bs : Nat → Nat) : Prop := L = 0 ∨ ∃ b off, sl = some ⟨b, off, none⟩ ∧ ∀ i, i < L → w.cell? ⟨b, off + i, none⟩ = some (.int .u8 (bs i : Nat))
theorem zys.keep {w : World} {sl : Option Addr} {L : Nat} {bs : Nat → Nat} (h : zys w0 sl L bs) (hw : Hp w0 none' m w) : zys w sl L bs := by
  rcases h with h | ⟨b, off, h1, h2⟩
  · exact .inl h
  · exact .inr ⟨b, off, h1, fun i hi => hw.old (fun h => h) (h2 i hi)⟩
variable {P : Program} {Q : Exit → Act → World → Prop} {N : Fm} {l : zat} {H : World → Prop} {ops : Array Oper} {S : World → Prop} {t : Nat}
theorem zau (i : Nat) {dst : Option Tmp} {op : Op} {ty : TypeId} {pos : String} {after : Array Edge} {g : Option (Nat × Bool)} {n : Nat} {listed : Array Bool} {α : Type} {l' : α → zat} {H' : α → World → Prop} (hr0 : Region.ready .any ops listed = [i] ∧ i < t) (hi0 : nth ops.toList i = some ⟨dst, op, ty, pos, after, g⟩) (hg : okG ops l g = true)
    (h : HO P ⟨dst, op, ty, pos, after, g⟩ (znl Q) N l H l' H') (hS : ∀ x w, H' x w → S w) (k : ∀ x, HD P ops Q S t N n (listed.setIfInBounds i true) (l' x) (H' x)) : HD P ops Q S t N (n + 1) listed l H := by
  unfold HD HO at *
  intro inv a w s hw
  have hi := zed hi0
  obtain ⟨hr, hlt⟩ := hr0
  have hm : i ∈ Region.ready .any ops listed := by rw [hr]; simp
  refine ⟨fun h => (by rw [hr] at h; cases h), fun j hj => ?_⟩
  obtain rfl : j = i := by rw [hr] at hj; simpa using hj
  unfold wpOp
  simp only [hi]
  rw [if_pos (zi4 s hg)]
  exact .inl (And.right <| h a w s hw _ fun x a' w' s' hw' => ⟨fun _ => hS x w' hw', k x (inv.set hm hlt) a' w' s' hw'⟩)
theorem zk0 {S' : World → Prop} (hS : ∀ w, S' w → S w) : ∀ (n : Nat) (listed : Array Bool) (a : Act) (w : World), znf P ops Q S' t n listed a w → znf P ops Q S t n listed a w
  | 0, _, _, _, h => h
  | n + 1, _, _, _, h => ⟨h.1, fun i hi => wpOp_mono (fun a' w' h' => ⟨fun hn => hS _ (h'.1 hn), zk0 hS n _ a' w' h'.2⟩) (h.2 i hi)⟩
theorem qq9 {n : Nat} {listed : Array Bool} (hS : ∀ w, H w → S w) (k : HD P ops Q H t N n listed l H) : HD P ops Q S t N n listed l H := by
  unfold HD at *
  exact fun inv a w s hw => zk0 hS _ _ _ _ (k inv a w s hw)
variable {P : Program} {Q : Exit → Act → World → Prop} {N : Fm} {l : zat} {H : World → Prop} {ops : Array Oper} {rest : List Oper} {S : World → Prop} {t : Nat}
section
variable {dst : Option Nat} {op : Op} {ty : TypeId} {pos : String} {after : Array Edge} {g : Nat × Bool} {d : Nat} {b : Bool}
theorem qnj (_hd : (nth ops.toList g.1).bind (·.dst) = some d) (h : get l d = some (.bool b)) (hb : b = true) (k : HL P ops Q N (⟨dst, op, ty, pos, after, some g⟩ :: rest) ((d, .bool true) :: l) H) : HL P ops Q N (⟨dst, op, ty, pos, after, some g⟩ :: rest) l H := zdc d _ _ h (by rw [hb]) k
theorem qoa (_hd : (nth ops.toList g.1).bind (·.dst) = some d) (h : get l d = some (.bool b)) (hb : b = false) (k : HL P ops Q N (⟨dst, op, ty, pos, after, some g⟩ :: rest) ((d, .bool false) :: l) H) : HL P ops Q N (⟨dst, op, ty, pos, after, some g⟩ :: rest) l H := zdc d _ _ h (by rw [hb]) k
end
def noB (ops : List Oper) (l : zat) : Option (Nat × Bool) → Bool
  | none => false
  | some (j, want) => match nth ops j with
    | some o => (match o.dst with | some t => (match get l t with | some (.bool c) => !(c == want) | some (.tuple _) => true | _ => false) | none => false)
    | none => false
section
variable {op : Op} {ty : TypeId} {pos : String} {after : Array Edge} {g : Nat × Bool}
end
theorem zfc {id : Nat} {r : List Oper} {w0 : World} {F : Nat → Prop} {m : List Item} (hm : zld P r = true) (h : HD P r.toArray Q (Hp w0 F m) r.length N r.length (Array.replicate r.length false) l (Hp w0 F m)) : HT P (.region id r.toArray true) Q N l (Hp w0 F m) := zzk r.length hm (fun _ h => h.drew) h
theorem zae {dst : Option Nat} {op : Op} {ty : TypeId} {pos : String} {after : Array Edge} {g : Option (Nat × Bool)} {α : Type} {l' : α → zat} {H' : α → World → Prop} (hg : okG ops l g = true) (h : HO P ⟨dst, op, ty, pos, after, g⟩ Q N l H l' H') (k : ∀ x, HL P ops Q N rest (l' x) (H' x)) : HL P ops Q N (⟨dst, op, ty, pos, after, g⟩ :: rest) l H := by
  unfold HL HO at *
  intro a w s hw
  unfold wpListIn
  rw [if_pos (zi4 s hg)]
  exact (fun x => qim x.1 x.2 N.r) (h a w s hw _ fun x a' w' s' hw' => k x a' w' s' hw')
variable {P : Program} {Q : Exit → Act → World → Prop} {N : Fm} {l : zat} {H : World → Prop} {ops : Array Oper} {rest : List Oper} {w0 : World} {F : Nat → Prop} {m : List Item} {ty : TypeId} {pos : String} {after : Array Edge} {g : Option (Nat × Bool)} {d : Nat}
/-! ### slicing of strings -/
theorem qi7 {T : TypeId} {x y : Operand} {s : ByteArray} {k : IntKind} {i : Nat} (hx : evO l x = some (.string s)) (hy : evO l y = some (.int k i)) (hT : P.underlying T = some .string) (hi : i ≤ s.size) : OV P (.slice T x (some y) none none) ty l H (.string (s.extract i s.size)) := ov fun _ _ _ w _ => by
  have h := run_slice_string_l (P := P) w T s hT k i (by omega) (by omega)
  simp only [execOp, zax hx, Option.map_some, Option.map_none, zax hy, Sem.run_bind, run_sliceAt_string w T _ _ _ _ hT, h, Int.toNat_natCast]
  rfl
theorem qhs {T : TypeId} {x y : Operand} {s : ByteArray} {k : IntKind} {i : Nat} (hx : evO l x = some (.string s)) (hy : evO l y = some (.int k i)) (hT : P.underlying T = some .string) (hi : i ≤ s.size) : OV P (.slice T x none (some y) none) ty l H (.string (s.extract 0 i)) := ov fun _ _ _ w _ => by
  have h := run_slice_string_h (P := P) w T s hT k i (by omega) (by omega)
  simp only [execOp, zax hx, Option.map_some, Option.map_none, zax hy, Sem.run_bind, run_sliceAt_string w T _ _ _ _ hT, h, Int.toNat_natCast]
  rfl
theorem qlg {T : TypeId} {x y z : Operand} {s : ByteArray} {k k' : IntKind} {i j : Nat} (hx : evO l x = some (.string s)) (hy : evO l y = some (.int k i)) (hz : evO l z = some (.int k' j)) (hT : P.underlying T = some .string) (hi : i ≤ j) (hj : j ≤ s.size) : OV P (.slice T x (some y) (some z) none) ty l H (.string (s.extract i j)) := ov fun _ _ _ w _ => by
  have h := run_slice_string (P := P) w T s k k' i j hT (by omega) (by omega) (by omega)
  simp only [execOp, zax hx, Option.map_some, Option.map_none, zax hy, zax hz, Sem.run_bind, run_sliceAt_string w T _ _ _ _ hT, h, Int.toNat_natCast]
  rfl
/-! ### '==' and '!=' of strings -/
theorem qcx {a b : ByteArray} (h : a.data.toList = b.data.toList) : a = b := by
  cases a; cases b; congr; exact Array.toList_inj.1 h
theorem zpq (a b : ByteArray) : (a.toList == b.toList) = decide (a = b) := by
  rw [ByteArray.toList_eq, ByteArray.toList_eq, Bool.eq_iff_iff]
  simp only [beq_iff_eq, decide_eq_true_eq]
  exact ⟨qcx, fun h => by rw [h]⟩
def seq (a b : ByteArray) : Bool := decide (a = b)
theorem qee (a b : ByteArray) : decide (a = b) = seq a b := rfl
theorem ztj {a b : ByteArray} : seq a b = true ↔ a = b := by simp [seq]
theorem qi2 (a b : ByteArray) : seq a b = (a.data.toList == b.data.toList) := by
  rw [← qee, ← zpq, ByteArray.toList_eq, ByteArray.toList_eq]
theorem qcw {T U : TypeId} {x y : Operand} {a b : ByteArray} (hx : evO l x = some (.string a)) (hy : evO l y = some (.string b)) : OV P (.binOp .eql T x y U) ty l H (.bool (seq a b)) := by
  rw [← qee, ← zpq]
  exact zf1 hx hy fun _ => rfl
/-! ### slicing of slices -/
def zqr (a : Option Addr) (room : Bool) (k : Nat) : Option Addr := if room then a else a.map (·.add k)
theorem qow {T e : TypeId} {x y : Operand} {a : Option Addr} {n c sz : Nat} {k : IntKind} {i : Nat} (hx : evO l x = some (.slice a n c)) (hy : evO l y = some (.int k i)) (hT : zka P T = some e) (he : zc1 P e = some sz) (hi : i ≤ n) : OV P (.slice T x (some y) none none) ty l H (.slice (zqr a (decide (c = i)) (i * sz)) (n - i) (c - i)) := ov fun _ _ _ w _ => by
  have hu := zbm hT
  have hu' : P.underlying T = some (.slice (P.elem T)) := by rw [hu]; simp [Program.elem, hu]
  have he' : P.elem T = e := by simp [Program.elem, hu]
  obtain ⟨q, hq, hqs⟩ := zbp he
  have h := run_slice_l (P := P) w T a n c hu' k i (by omega) (by omega)
  have hz : (sizeOf (P.elem T)).run P w = .ok sz w := by rw [he']; simp [sizeOf, typeInfo, hq, hqs]
  simp only [execOp, zax hx, Option.map_some, Option.map_none, zax hy, Sem.run_bind, run_sliceAt_slice w T _ _ _ _ hu', h, hz, Result.andThen_ok, Int.toNat_natCast, sliced, zqr]
  simp [Sem.run_pure]
/-! ### texts as lists of bytes -/
theorem zuv (s : ByteArray) (i : Nat) : (s.extract i s.size).data.toList = s.data.toList.drop i := by
  simp [ByteArray.data_extract, Array.toList_extract, List.take_of_length_le]
theorem zpr (a : ByteArray) : a.data.toList.length = a.size := by simp
attribute [irreducible] seq
end Go.Eng
