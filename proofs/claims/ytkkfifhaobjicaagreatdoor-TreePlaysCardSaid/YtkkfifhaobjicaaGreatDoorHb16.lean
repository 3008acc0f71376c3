/- Slices of bytes: conversions, clones, what is read of them. -/
/- package disk: what a disk is in memory; its small functions. -/
/- strings.Builder, written on behind String: the buffer's head may be frozen. -/
import Derived.Test.YtkkfifhaobjicaaGreatDoorHb15
import Derived.Test.YtkkfifhaobjicaaGreatDoorHb13
import Derived.Test.YtkkfifhaobjicaaGreatDoorHb04
import Derived.Laws.IdiomStrings
import Derived.Laws.Cover3
import Derived.Test.YtkkfifhaobjicaaGreatDoorChecked
import Derived.Lib.FrozenHead
import Derived.Lib.MakeNoZero
import Derived.Lib.UnsafeStr
namespace Go.Eng
open Go.RowKit
set_option maxRecDepth 100000
variable {P : Program} {Q : Exit → Act → World → Prop} {N : Fm} {l : zat} {H : World → Prop} {ops : Array Oper} {rest : List Oper} {w0 : World} {F : Nat → Prop} {m m' : List Item} {ty : TypeId} {pos : String} {after : Array Edge} {g : Option (Nat × Bool)} {d : Nat}
/-! ### Reading -/
theorem Rd.take {w : World} {a : Option Addr} {xs : List Value} (h : Rd w a xs) (k : Nat) : Rd w a (xs.take k) := by
 rcases h with h | ⟨b, off, rfl, h⟩
 ·exact .inl (by rw [h]; exact List.take_nil)
 ·exact .inr ⟨b, off, rfl, zfp h⟩
theorem Rd.drop1 {w : World} {a : Option Addr} {xs : List Value} {c : Nat} (h : Rd w a xs) (i : Nat) (hc : xs.length ≤ c) : Rd w (zqr a (decide (c = i)) (i * 1)) (xs.drop i) := by
 by_cases hi : xs.length ≤ i
 ·exact .inl (List.drop_of_length_le hi)
 ·rcases h with h | ⟨b, off, rfl, h⟩
  ·exact .inl (by rw [h]; simp)
  ·rw [zca (by omega), Nat.mul_one]
   exact .inr ⟨b, off + i, rfl, zgx h⟩
theorem zar (s : List UInt8) : (zaf s).length = s.length := by simp [zaf]
theorem zx1 (s : List UInt8) (n : Nat) : zaf (s.take n) = (zaf s).take n := by simp [zaf]
theorem zw4 (s : List UInt8) (n : Nat) : zaf (s.drop n) = (zaf s).drop n := by simp [zaf]
theorem zje (a b : List UInt8) : zaf (a ++ b) = zaf a ++ zaf b := by simp [zaf]
theorem zu8 {s : List UInt8} {i : Nat} (h : i < s.length) : (zaf s)[i]? = some (.int .u8 (s[i].toNat : Int)) := by simp [zaf, h]
theorem zel (s : List UInt8) : zbz (zaf s) = true := by
 induction s with
 | nil => rfl
 | cons c s ih =>
  show (Value.oneCell' _ && zbz (zaf s)) = true
  rw [ih]; rfl
theorem Rd.byte {w : World} {a : Option Addr} {s : List UInt8} (h : Rd w a (zaf s)) {i : Nat} (hi : i < s.length) : ∃ b off, a = some ⟨b, off, none⟩ ∧ w.cell? ⟨b, off + i, none⟩ = some (.int .u8 (s[i].toNat : Int)) := by
 rcases h with h | ⟨b, off, rfl, h⟩
 ·have := congrArg List.length h
  rw [zar] at this
  simp at this; subst this; simp at hi
 ·exact ⟨b, off, rfl, h i _ (zu8 hi)⟩
theorem za2.fr {it : Item} {w w' : World} (h : za2 it w) (hf : Fr none' w w') : za2 it w' :=
 ⟨h.2.1 w w' (fun k hk => hk.elim (fun f => f.elim) fun hk => hf.block k (h.2.2 k hk) (fun h => h)) h.1, h.2.1, fun k hk => Nat.lt_of_lt_of_le (h.2.2 k hk) hf.size⟩
/-! ### Two ways that come together -/
theorem zm8 {n : Nat} {ds : List Deferred} {r : Option Nat} {x y : Code} {α : Type} (L : α → zat) (φ : α → Prop) (M : α → List Item)
  (h : HT P x (Exit.then (fun a w => ∃ z, φ z ∧ St ⟨n, ds, r⟩ (L z) a ∧ Hp w0 F (M z) w) Q) ⟨n, ds, r⟩ l H) (k : ∀ z, φ z → HT P y Q ⟨n, ds, r⟩ (L z) (Hp w0 F (M z))) : HT P x (Exit.then (WP P r y Q) Q) ⟨n, ds, r⟩ l H := by
 unfold HT at *
 refine fun a w s hw => WP.mono (fun e a' w' q => ?_) (h a w s hw)
 cases e with
 | normal => obtain ⟨z, h1, h2, h3⟩ := q; exact k z h1 a' w' h2 h3
 | _ => exact q
theorem zd1 {α : Type} {L : α → zat} {φ : α → Prop} {M : α → List Item} (z : α) (hl : Has l (L z)) (hφ : φ z) (hI : ∀ w, Hp w0 F m w → Hp w0 F (M z) w) : HX (Exit.then (fun a w => ∃ z, φ z ∧ St N (L z) a ∧ Hp w0 F (M z) w) Q) .normal N l (Hp w0 F m) := by
 unfold HX
 exact fun a w s hw => ⟨z, hφ, s.sub hl.sub, hI w hw⟩
theorem Hp.beside {w w' : World} {pre : List Item} (hw : Hp w0 F (pre ++ m) w) {D : Item} (hm : D ∈ m) (hs : D.Stable none') (hf : Fr (zap pre) w w') : D.prop w' :=
 hs w w' (fun k hk => hk.elim (fun f => f.elim) fun hk => hf.block k ((hw.item D (List.mem_append_right _ hm)).2.2 k hk).1 (fun ⟨it, h1, h2⟩ => (List.pairwise_append.1 hw.apart).2.2 it h1 D hm k h2 hk)) (hw.item D (List.mem_append_right _ hm)).1
theorem qn3 (n : Nat) : zcu (.int .u8 0) n = zaf (List.replicate n 0) := by
 apply List.ext_getElem?
 intro i
 simp only [zcu, zaf, List.getElem?_map]
 by_cases h : i < n
 ·rw [List.getElem?_range h, List.getElem?_replicate, if_pos h]
  have : i % (Value.int .u8 0).cells.size = 0 := Nat.mod_one i
  simp only [Option.map_some, this]; rfl
 ·rw [List.getElem?_eq_none (by simpa using Nat.not_lt.1 h), List.getElem?_eq_none (by simpa using Nat.not_lt.1 h)]; rfl
/-! ### Comparison with nil -/
theorem qnv {T U e : TypeId} {x y : Operand} {a : Option Addr} {n c : Nat} (hx : evO l x = some (.slice a n c)) (hy : evO l y = some (.slice none 0 0)) (hT : zka P T = some e) : OV P (.binOp .eql T x y U) ty l H (.bool a.isNone) := zf1 hx hy fun w => by
 show ((do pure (.bool (← Op.equal T (.slice a n c) (.slice none 0 0))) : Sem Value).run P w) = _
 rw [Sem.run_bind, run_equal_slice_nil w T e a n c (zbm hT)]; rfl
/-! ### An empty literal -/
theorem qhr {T e : TypeId} {sz : Nat} (hok : zfj N l (.buildSlice T 0 #[]) d = true) (hT : zka P T = some e) (hi : (P.info? e).isSome = true) :
  HO P ⟨some d, .buildSlice T 0 #[], ty, pos, after, g⟩ Q N l (Hp w0 F m) (α := { b : Nat // w0.heap.size ≤ b }) (fun c => (d, slV (some (c.1, 0)) 0) :: l) (fun c => Hp w0 F (own e sz (some (c.1, 0)) 0 [] :: m)) :=
 zhr (val := fun c : { b : Nat // w0.heap.size ≤ b } => slV (some (c.1, 0)) 0) hok (fun w hw => by
  obtain ⟨i, h1⟩ := Option.isSome_iff_exists.1 hi
  refine ⟨⟨w.heap.size, hw.fr.size⟩, w.alloc (.cells #[] e), ?_, hw.newOwn ⟨by simp, Nat.le_refl _, Nat.zero_le _, #[], heap_alloc_new w _, by simp, by simp⟩⟩
  simp only [execOp, Instr.buildSlice, Sem.run_bind, run_underlying (zbm hT) w, Result.andThen_ok, sizeOf, typeInfo]
  simp [newRow, h1, Instr.fill, slV]
  rw [show Array.map (fun _ : Nat => (default : Value)) (Array.range 0) = #[] from Array.eq_empty_of_size_eq_zero (by simp)])
/-! ### Texts and bytes -/
def u8E (P : Program) (T : TypeId) : Option TypeId := match P.underlying T with | some (.slice e) => (match P.underlying e with | some (.int .u8) => some e | _ => none) | _ => none
theorem zs5 {T e : TypeId} (h : u8E P T = some e) : P.underlying T = some (.slice e) ∧ P.underlying e = some (.int .u8) := by
 unfold u8E at h
 split at h
 ·rename_i hu
  split at h
  ·rename_i he; cases h; exact ⟨hu, he⟩
  ·cases h
 ·cases h
theorem zql (s : ByteArray) (c : Nat) (h : s.size ≤ c) : bytesRow s c = (zaf s.data.toList ++ List.replicate (c - s.size) (Value.int .u8 0)).toArray := by
 apply Array.ext'
 simp [bytesRow, zaf]
abbrev zn9 (e : TypeId) (s : List UInt8) (b c : Nat) : Item := pt b (.cells (zaf s ++ List.replicate (c - s.length) (Value.int .u8 0)).toArray e (c, c + 1))
theorem zk6 {w : World} {e : TypeId} {s : List UInt8} {b c : Nat} (h : (zn9 e s b c).prop w) : w.rangeAt b 0 (zaf s) := fun j v hj => by
 refine za7 h j v ?_
 rw [List.getElem?_append_left (List.getElem?_eq_some_iff.1 hj).1]; exact hj
theorem zy3 {S T e : TypeId} {x : Operand} {s : ByteArray} (hok : zfj N l (.convert S T x) d = true) (hx : evO l x = some (.string s)) (hS : P.underlying S = some .string) (hT : u8E P T = some e) :
  HO P ⟨some d, .convert S T x, ty, pos, after, g⟩ Q N l (Hp w0 F m) (α := { p : Nat × Nat // w0.heap.size ≤ p.1 ∧ s.size ≤ p.2 }) (fun p => (d, .slice (some ⟨p.1.1, 0, none⟩) s.size p.1.2) :: l) (fun p => Hp w0 F (zn9 e s.data.toList p.1.1 p.1.2 :: m)) :=
 zhr (val := fun p : { p : Nat × Nat // w0.heap.size ≤ p.1 ∧ s.size ≤ p.2 } => .slice (some ⟨p.1.1, 0, none⟩) s.size p.1.2) hok (fun w hw => by
  have hg := grownCap_ge w s.size 0 e
  refine ⟨⟨(w.heap.size, grownCap w s.size 0 e), hw.fr.size, hg⟩, _, by simp only [execOp, zax hx, Sem.run_bind, run_bytes_of_string (P := P) w S T e s hS (zs5 hT).1 (zs5 hT).2]; rfl, ?_⟩
  have hsz : (bytesRow s (grownCap w s.size 0 e)).size = grownCap w s.size 0 e := by simp [bytesRow]; omega
  rw [hsz, zql s _ hg]
  have h1 := (hw.drew).alloc (.cells (zaf s.data.toList ++ List.replicate (grownCap w s.size 0 e - s.size) (Value.int .u8 0)).toArray e (grownCap w s.size 0 e, grownCap w s.size 0 e + 1))
  show Hp w0 F (pt w.heap.size (.cells (zaf s.data.toList ++ List.replicate (grownCap w s.size 0 e - s.data.toList.length) (Value.int .u8 0)).toArray e (grownCap w s.size 0 e, grownCap w s.size 0 e + 1)) :: m) _
  rw [zpr s]
  exact h1)
theorem zrz {S T e : TypeId} {x : Operand} {a : Option Addr} {n c : Nat} {bs : List UInt8} (hx : evO l x = some (.slice a n c)) (hn : n = bs.length) (hS : u8E P S = some e) (hd : P.underlying T = some .string)
  (hr : ∀ w, Hp w0 F m w → Rd w a (zaf bs)) : OV P (.convert S T x) ty l (Hp w0 F m) (.string ⟨bs.toArray⟩) := ov fun _ _ _ w hw => by
 obtain ⟨hs, he⟩ := zs5 hS
 rcases hr w hw with h | ⟨b, off, rfl, h⟩
 ·have hz : bs = [] := by cases bs with | nil => rfl | cons c r => simp [zaf] at h
  subst hz
  subst hn
  cases a with
  | none => simp [execOp, zax hx, convert, Sem.run_bind, run_underlying hs w, run_underlying hd w, run_underlying he w, Conv.bytesToString]; rfl
  | some a =>
   simp only [execOp, zax hx, Sem.run_bind, run_convert_bytes_back (P := P) w S T e a c [] hs he hd (fun j hj => by simp at hj)]
   exact congrArg (fun r => (Result.ok r w).andThen _) rfl
 ·subst hn
  simp only [execOp, zax hx, Sem.run_bind, run_convert_bytes_back (P := P) w S T e ⟨b, off, none⟩ c bs hs he hd (fun j hj => by rw [zc8]; exact h j _ (zu8 hj))]
  rfl
/-! ### Arrays as slices -/
theorem zst {T e : TypeId} {x : Operand} {b i n sz : Nat} (hx : evO l x = some (.pointer (some ⟨b, i, none⟩))) (hT : P.underlying T = some (.array n e)) (he : zc1 P e = some sz) (hn : Nat.ble 1 n = true) : OV P (.slice T x none none none) ty l H (.slice (some ⟨b, i, none⟩) n n) := ov fun _ _ _ w _ => by
 obtain ⟨q, h1, h2⟩ := zbp he
 have hn' := Nat.le_of_ble_eq_true hn
 have hne : ¬ n = 0 := by omega
 simp [execOp, zax hx, Instr.sliceAt, Instr.sureAddr, run_underlying hT w, Instr.sliceBounds, sizeOf, typeInfo, h1, hne, Addr.add]
theorem zuy {T e : TypeId} {x : Operand} {a : Option Addr} {n k c : Nat} (hx : evO l x = some (.slice a k c)) (hT : P.underlying T = some (.array n e)) (hn : n ≤ k) : OV P (.sliceToArrayPointer T x) ty l H (.pointer a) := ov fun _ _ _ w _ => by
 have : ¬ k < n := by omega
 simp [execOp, zax hx, Instr.arrayAt, run_underlying hT w, this]
theorem zc0 (o : Option (Nat × Nat)) (n : Nat) : (slV o n).cells = #[slV o n] := by cases o <;> rfl
theorem zdf (o : Option (Nat × Nat)) (n : Nat) : (slV o n).oneCell' = true := by cases o <;> rfl
/-! ### Numbers -/
theorem zsd {x y : Operand} {T U : TypeId} {a b : Int} (hx : evO l x = some (.int .i64 a)) (hy : evO l y = some (.int .i64 b)) (h : -9223372036854775808 ≤ a - b ∧ a - b < 9223372036854775808) : OV P (.binOp .sub T x y U) ty l H (.int .i64 (a - b)) := zf1 hx hy fun w => ze3 w (zzj _ h.1 h.2)
theorem qps {T : Array TypeId} {x y : Operand} {k k' : IntKind} {a b : Int} {i j : Nat} [h : NatOf a i] [h' : NatOf b j] (hx : evO l x = some (.int k a)) (hy : evO l y = some (.int k' b)) : OV P (.call ⟨.builtin .max, #[x, y], T⟩) ty l H (.int k (max i j : Nat)) := ov fun _ _ _ w _ => by
 obtain rfl := h.eq; obtain rfl := h'.eq
 simp only [execOp, resolve, invoke, builtin]
 simp [zax hx, zax hy, run_max_int2]
 split <;> omega
theorem qjb {S T : TypeId} {x : Operand} {k k' : IntKind} {a : Int} {n L q : Nat} [h : NatOf a n] [hL : Uns k' L q] (hx : evO l x = some (.int k a)) (hS : (P.underlying S).isSome = true) (hT : qov P T = some k') : OV P (.convert S T x) ty l H (.int k' ((n % L : Nat) : Int)) := ov fun _ _ _ w _ => by
 obtain rfl := h.eq
 obtain ⟨u, hu⟩ := Option.isSome_iff_exists.1 hS
 simp only [execOp, zax hx, convert, Sem.run_bind, run_underlying hu w, run_underlying (zwi hT) w, Result.andThen_ok, Conv.intToInt, Sem.run_pure, hL.wrap n]
theorem qm4 (a : Nat) (c : Nat) (h : a * 256 + 255 < 18446744073709551616) (hc : c < 256) : (a * 2 ^ 8 % 18446744073709551616) ||| c = a * 256 + c := by
 rw [Nat.mod_eq_of_lt (by omega)]
 have := Nat.shiftLeft_add_eq_or_of_lt (i := 8) (b := c) (by omega) a
 rw [Nat.shiftLeft_eq] at this
 rw [← this]
theorem zd5 {w : World} (e : TypeId) (sz : Nat) (h : Hp w0 F m w) : Hp w0 F (own e sz none 0 [] :: m) w := Hp.call0 (L := [own _ sz none 0 []]) h ⟨.refl _ _, fun it hm => by
 obtain rfl : it = own e sz none 0 [] := by simpa using hm
 exact ⟨⟨by simp, rfl⟩, zab _ _ _ _ _ _, fun k ⟨c, hk⟩ => nomatch hk⟩, .cons (fun _ h => nomatch h) .nil⟩
end Go.Eng
namespace Go.Eng
open Go.RowKit
variable {P : Program} {Q : Exit → Act → World → Prop} {N : Fm} {l : zat} {ops : Array Oper} {rest : List Oper} {w0 : World} {F : Nat → Prop} {m : List Item}
theorem Hp.close1 {w : World} {L : List Item} (hs : ∀ it ∈ L, it.Stable none') (h : Hp w0 F (L ++ m) w) : Hp w0 F (zgu L :: m) w := by
 refine ⟨h.fr, fun it hm => ?_, List.pairwise_cons.2 ⟨fun y hy k ⟨x, hx, hkx⟩ hky => (List.pairwise_append.1 h.apart).2.2 x hx y hy k hkx hky, (List.pairwise_append.1 h.apart).2.1⟩⟩
 rcases List.mem_cons.1 hm with rfl | hm
 ·refine ⟨⟨fun it hm => ?_, (List.pairwise_append.1 h.apart).1⟩, (zad L).ro _, fun k ⟨it, hm, hk⟩ => (h.item it (List.mem_append_left _ hm)).2.2 k hk⟩
  have hi := h.item it (List.mem_append_left _ hm)
  exact ⟨hi.1, hs it hm, fun k hk => (hi.2.2 k hk).1⟩
 ·exact h.item it (List.mem_append_right _ hm)
theorem qq2 {n sz : Nat} {cs : Array Value} (h : cs.size = sz) (h2 : sz ≤ n) : zdh n [(0, sz, .agg cs)] = true := by
 simp [zdh, Value.cells, h, h2]
theorem qq7 {zs cs : List Value} {k : Nat} (h : zs.length = cs.length) : zei zs [(0, k, .agg cs.toArray)] = cs := by
 show over zs 0 cs = cs
 unfold over
 rw [Nat.zero_add, ← h, List.drop_length, List.take_zero]
 simp
theorem za2.of {it : Item} {w : World} (h : it.In w0 F w) (hs : it.Stable none') : za2 it w := ⟨h.1, hs, fun k hk => (h.2.2 k hk).1⟩
theorem za2.keep {it : Item} {w0 w : World} {m : List Item} (h : za2 it w0) (hw : Hp w0 none' m w) : za2 it w := za2.fr h hw.fr
end Go.Eng
namespace Go.Proofs.YtkkfifhaobjicaaGreatDoor
open Go.RowKit Go.Eng
set_option maxRecDepth 100000
set_option maxHeartbeats 40000000
theorem bal (s : Bys) : (⟨s.toArray⟩ : ByteArray).size = s.length := by simp [ByteArray.size]
structure Dsk where
 on : List Bys
 wait : List (Bys × Nat)
 left : Option Nat
 keep : Bys
 dead : Bool
structure Dk where
 b : Nat
 onB : Nat
 w : Option (Nat × Nat)
 acts : Nat
 D : Dsk
def ze7 (l : List Bys) : List Value := l.flatMap zaf
def wrV (p : Bys × Nat) : List Value := zaf p.1 ++ [.int .i64 (p.2 : Int)]
def zoz : Option Nat → Int
 | none => -1
 | some n => (n : Int)
abbrev zer (d : Dk) : List Value := [.int .i64 (zoz d.D.left), .string ⟨d.D.keep.toArray⟩, .slice (some ⟨d.onB, 0, none⟩) d.D.on.length d.D.on.length, slV d.w d.D.wait.length, .bool d.D.dead, .int .u64 (d.acts : Nat)]
def dkL (d : Dk) : List Eng.Item := [pt d.b (.cells (zer d).toArray 149 (0, 0)), pt d.onB (.cells (ze7 d.D.on).toArray 187 (0, 0)), own 189 513 d.w d.D.wait.length (zc3 wrV d.D.wait)]
def dkI (d : Dk) : Eng.Item := zgu (dkL d)
theorem zr6 (d : Dk) : ∀ it ∈ dkL d, it.Stable none' := by simp [dkL, zac, zab]
structure Dsk.Ok (D : Dsk) : Prop where
 size : ∀ s ∈ D.on, s.length = 512
 wsize : ∀ p ∈ D.wait, p.1.length = 512 ∧ p.2 < D.on.length
 many : D.on.length ≤ 4096
 left : ∀ n, D.left = some n → n ≤ 9223372036854775807
theorem zfm (is : Bool) (e : Nat) (w : World) : Pu Tryz.prog 117 #[.bool is, .int .i64 e] w (.int .i64 (if is then 0 else e : Nat)) := by
 refine zbl [_, _] Tryz.func117 rfl rfl ?_
 simp only [zaa, Nat.reduceAdd]
 cases is with
 | true =>
  rw [if_pos rfl]
  refine goA ?_
  exact zc2 rfl rfl rfl
 | false =>
  rw [if_neg (by decide)]
  refine goA ?_
  exact zc2 rfl rfl rfl
def zh5 (l : List Nat) : Nat := (l.find? fun e => decide (e ≠ 0)).getD 0
def qfx (l : List Nat) : List Value := l.map fun e : Nat => Value.int .i64 (e : Int)
theorem zkj (L : List Nat) (a : Option Addr) (c : Nat) (hn : L.length ≤ 1000) (w : World) (hr : Rd w a (qfx L)) : Pu Tryz.prog 114 #[.slice a L.length c] w (.int .i64 (zh5 L : Nat)) := by
 refine zbl [_] Tryz.func114 rfl rfl ?_
 simp only [zaa]
 refine goA ?_
 refine zct (α := Nat) (fun i => [(5, .slice a L.length c), (6, .int .i64 L.length), (7, .int .i64 i)]) (fun i => i ≤ L.length ∧ ∀ e ∈ L.take i, e = 0) (fun _ => []) (fun i => L.length - i) 0 ⟨rfl, rfl, rfl, trivial⟩ ⟨Nat.zero_le _, fun _ h => nomatch h⟩ (fun w' hw' => hw') fun i ⟨hi, hz⟩ => ?_
 by_cases hi2 : i < L.length
 ·have hlen : (qfx L).length = L.length := by simp [qfx]
  have hat : (qfx L)[i]? = some (.int .i64 (L[i] : Nat)) := by simp [qfx, hi2]
  have hsp : L = L.take i ++ (L[i] :: L.drop (i + 1)) := by rw [List.getElem_cons_drop, List.take_append_drop]
  have hup : L.take (i + 1) = L.take i ++ [L[i]] := List.take_succ_eq_append_getElem hi2
  have hfe : ∀ e, L[i] = e → e ≠ 0 → zh5 L = e := fun e he h0 => by
   rw [zh5, hsp, List.find?_append, List.find?_eq_none.2 fun x hx => by simp [hz x hx], he]
   simp [h0]
  obtain ⟨b, off, rfl, hcell⟩ := hr.at_ (fun e => by rw [e] at hlen; simp at hlen; omega)
  have hci := hcell i _ hat
  generalize L[i] = e at hci hup hfe
  refine goA ?_
  refine l_w rfl (zaz rfl rfl (fun w' hw' => hw'.old (fun h => h) hci)) ?_
  refine goA ?_
  by_cases h0 : e = 0
  ·subst h0
   refine goA ?_
   exact zay (i + 1) ⟨rfl, rfl, rfl, trivial⟩ ⟨hi2, fun x hx => by
    rw [hup] at hx
    rcases List.mem_append.1 hx with hx | hx
    ·exact hz x hx
    ·exact List.mem_singleton.1 hx⟩ (fun w' hw' => hw') (by omega)
  ·rw [hfe e rfl h0]
   refine goA ?_
   exact zc2 rfl rfl rfl
 ·obtain rfl : i = L.length := by omega
  rw [List.take_length] at hz
  have : zh5 L = 0 := by rw [zh5, List.find?_eq_none.2 fun x hx => by simp [hz x hx]]; rfl
  rw [this]
  refine goA ?_
  exact zc2 rfl rfl rfl
theorem qed {d : Dk} {w : World} (h : za2 (dkI d) w) (i : Nat) {v : Value} (hv : (zer d)[i]? = some v) : w.cell? ⟨d.b, i, none⟩ = some v :=
 zdx (h.1.1 (pt d.b (.cells (zer d).toArray 149 (0, 0))) (.head _)).1 (by rw [List.getElem?_toArray]; exact hv)
theorem zyb (b : Nat) (w : World) : Pu Tryz.prog 155 #[.pointer (some ⟨b, 0, none⟩)] w (.int .i64 0) := by
 refine zbl [_] Tryz.func155 rfl rfl ?_
 simp only [zaa]
 refine goA ?_
 refine zae rfl (zag rfl (by kernel_rfl) rfl (fun w1 hw1 => zfm true 1 w1)) fun _ => ?_
 refine goA ?_
 exact zc2 rfl rfl rfl
theorem zw9 (d : Dk) (w : World) (h : za2 (dkI d) w) : Pu Tryz.prog 156 #[.pointer (some ⟨d.b, 0, none⟩)] w (.bool (!d.D.dead)) := by
 refine zbl [_] Tryz.func156 rfl rfl ?_
 simp only [zaa]
 refine goA ?_
 refine l_w rfl (zaz rfl rfl (fun w' hw' => qed (h.keep hw') 4 rfl)) ?_
 refine goA ?_
 exact zc2 rfl rfl rfl
theorem zha (d : Dk) (w : World) (h : za2 (dkI d) w) : Pu Tryz.prog 76 #[.pointer (some ⟨d.b, 0, none⟩)] w (.int .i64 d.D.on.length) := by
 refine zbl [_] Tryz.func76 rfl rfl ?_
 simp only [zaa]
 refine goA ?_
 refine l_w rfl (zaz rfl rfl (fun w' hw' => qed (h.keep hw') 2 rfl)) ?_
 refine goA ?_
 exact zc2 rfl rfl rfl
theorem zkb (d : Dk) (w : World) (h : za2 (dkI d) w) : Pu Tryz.prog 115 #[.pointer (some ⟨d.b, 0, none⟩)] w (.int .i64 (if d.D.dead then 4 else 0 : Nat)) := by
 refine zbl [_] Tryz.func115 rfl rfl ?_
 simp only [zaa]
 refine goA ?_
 refine zae rfl (zag rfl (by kernel_rfl) rfl (fun w1 hw1 => zyb d.b w1)) fun _ => ?_
 refine goA ?_
 refine zae rfl (zag rfl (by kernel_rfl) rfl (fun w1 hw1 => zw9 d w1 (h.keep hw1))) fun _ => ?_
 refine zae rfl (zag rfl (by kernel_rfl) rfl (fun w1 hw1 => zfm (!d.D.dead) 4 w1)) fun _ => ?_
 refine za0 rfl (zbc rfl rfl rfl rfl rfl rfl) fun ⟨bq, hbq⟩ => ?_
 refine zae rfl (zag rfl (by kernel_rfl) rfl (fun w1 hw1 => zkj [0, if !d.D.dead then 0 else 4] (some ⟨bq, 0, none⟩) 2 (by simp) w1 (zbn (o := some (bq, 2)) (hw1.item _ (.head _)).1))) fun _ => ?_
 refine goA ?_
 refine zc2 rfl rfl ?_
 cases d.D.dead <;> rfl
theorem zn8 (d : Dk) (at_ : Nat) (hat : at_ < 9223372036854775808) (w : World) (h : za2 (dkI d) w) : Pu Tryz.prog 116 #[.pointer (some ⟨d.b, 0, none⟩), .int .i64 at_] w (.int .i64 (if at_ < d.D.on.length then 0 else 2 : Nat)) := by
 refine zbl [_, _] Tryz.func116 rfl rfl ?_
 simp only [zaa, Nat.reduceAdd]
 refine goA ?_
 refine zae rfl (zag rfl (by kernel_rfl) rfl (fun w1 hw1 => zha d w1 (h.keep hw1))) fun _ => ?_
 by_cases hl : at_ < d.D.on.length
 ·rw [if_pos hl]
  refine goA ?_
  refine zdc 12 _ (.bool true) rfl (congrArg Value.bool (decide_eq_true (by omega))) ?_
  refine zae rfl (zag rfl (by kernel_rfl) rfl (fun w1 hw1 => zfm true 2 w1)) fun _ => ?_
  refine goA ?_
  exact zc2 rfl rfl rfl
 ·rw [if_neg hl]
  refine goA ?_
  refine zdc 12 _ (.bool false) rfl (congrArg Value.bool (decide_eq_false (by omega))) ?_
  refine zae rfl (zag rfl (by kernel_rfl) rfl (fun w1 hw1 => zfm false 2 w1)) fun _ => ?_
  refine goA ?_
  exact zc2 rfl rfl rfl
end Go.Proofs.YtkkfifhaobjicaaGreatDoor
namespace Go.Eng
open Go.RowKit Go.Lib
variable {P : Program} {Q : Exit → Act → World → Prop} {N : Fm} {l : zat} {ops : Array Oper} {rest : List Oper} {w0 : World} {F : Nat → Prop} {m : List Item} {pos : String} {after : Array Edge} {g : Option (Nat × Bool)} {d : Nat}
def zqi (e : TypeId) (o : Option (Nat × Nat)) (n : Nat) (xs : List Value) : Item :=
 ⟨fun k => ∃ c, o = some (k, c), fun w => w.ownsRowF 0 e 1 (slV o n) n xs⟩
theorem zbf (ro : Nat → Prop) (e : TypeId) (o : Option (Nat × Nat)) (n : Nat) (xs : List Value) : (zqi e o n xs).Stable ro := by
 intro w w' h ⟨h1, h2⟩
 refine ⟨h1, ?_⟩
 rcases h2 with h2 | ⟨b, cap, cur, fz, hv, hb, hg, h3⟩
 ·exact .inl h2
 ·refine .inr ⟨b, cap, cur, fz, hv, hb, ?_, h3⟩
  match o, hv with
  | none, hv => cases hv
  | some (k, c), hv =>
   cases hv
   rw [h b (.inr ⟨_, rfl⟩)]; exact hg
theorem znx {w : World} {e : TypeId} {o : Option (Nat × Nat)} {n : Nat} {xs : List Value} (h : (own e 1 o n xs).prop w) : (zqi e o n xs).prop w := World.ownsRowF_of (ztf h)
theorem ztx {w : World} {e : TypeId} {o : Option (Nat × Nat)} {n : Nat} {xs : List Value} (h : (zqi e o n xs).prop w) : xs.length = n := by have := h.1; simpa using this
theorem zn1 {w w' : World} {e : TypeId} {n : Nat} {o o' : Option (Nat × Nat)} {xs : List Value} (hp : (zqi e o' n xs).prop w') (hf : Fr (fun k => ∃ c, o = some (k, c)) w w') (hn : ∀ b c, o' = some (b, c) → w.heap.size ≤ b ∨ ∃ c', o = some (b, c')) : Its (fun k => ∃ c, o = some (k, c)) w [zqi e o' n xs] w' := by
 refine ⟨hf, fun it hm => ?_, .cons (fun _ h => nomatch h) .nil⟩
 rw [List.mem_singleton] at hm
 subst hm
 refine ⟨hp, zbf _ _ _ _ _, fun k ⟨c, hk⟩ => ⟨?_, fun hlt => ?_⟩⟩
 ·subst hk
  rcases hp.2 with ⟨h, -⟩ | ⟨b, cap, cur, fz, hv, -, hg, -⟩
  ·cases h
  ·cases hv
   exact (Array.getElem?_eq_some_iff.1 hg).1
 ·rcases hn k c hk with h | h
  ·omega
  ·exact h
theorem qia {t u ty' e : TypeId} {i : TypeInfo} (ht : P.underlying t = some (.slice e)) (hu : P.underlying u = some .string) (hi : P.info? e = some i) (hz : i.zero = some (.int .u8 0)) (hs1 : i.size = 1) (hby : i.bytes = 1)
  {w : World} {o : Option (Nat × Nat)} {n : Nat} {xs : List Value} (hown : (zqi e o n xs).prop w) (s : ByteArray) (h63 : n + s.size ≤ 140737488355328) :
  ∃ o' w', (Builtin.append_ #[t, u] ty' #[slV o n, .string s]).run P w = .ok (slV o' (n + s.size)) w' ∧ Its (fun k => ∃ c, o = some (k, c)) w [zqi e o' (n + s.size) (xs ++ strCells s)] w' := by
 match o, hown with
 | none, hown =>
  obtain rfl : n = 0 := by
   rcases hown.2 with ⟨-, h⟩ | ⟨b, cap, cur, fz, hv, -⟩
   ·exact h
   ·cases hv
  have hx0 : xs = [] := List.eq_nil_of_length_eq_zero (ztx hown)
  subst hx0
  obtain ⟨o', w', hr, hits⟩ := qeg (P := P) (ty' := ty') ht hu hi hz hs1 hby (o := none) (n := 0) (xs := []) (w := w) ⟨rfl, rfl⟩ s h63
  refine ⟨o', w', hr, zn1 (znx (hits.item _ (.head _)).1) hits.fr fun b c hb => ?_⟩
  have h := (hits.item _ (.head _)).2.2 b ⟨c, hb⟩
  rcases Nat.lt_or_ge b w.heap.size with hl | hl
  ·obtain ⟨c', h'⟩ := h.2 hl
   cases h'
  ·exact .inl hl
 | some (b, cap), hown =>
  have hxl := ztx hown
  rcases hown.2 with ⟨h, -⟩ | ⟨b2, cap2, cur, fz, hv, -, h4, hfz, h2, h3, h5, h6⟩
  ·cases h
  cases hv
  rw [Nat.mul_one] at h5 h6 hfz
  have hlen : (xs ++ strCells s).length = (n + s.size) * 1 := by rw [List.length_append, hxl, strCells_length, Nat.mul_one]
  have hmx : n + s.size ≤ maxLen := by unfold maxLen; omega
  by_cases hroom : n + s.size ≤ cap
  ·have hr := Lib.run_append_room_stringF (P := P) w t u ty' e i ht hu hi hs1 b n cap cur fz h4 hfz s hroom (by omega)
   refine ⟨some (b, cap), _, hr, zn1 ⟨hlen, .inr ⟨b, cap, _, fz, rfl, Nat.zero_le _, setRow_heap w b cur _ e _ h4, by omega, hroom, h3, ?_, ?_⟩⟩ (zj0 rfl rfl rfl (by simp) fun j _ hj => setRow_other w b j _ (fun e => hj ⟨cap, by rw [e]⟩)) (fun b' c' h => .inr ⟨c', h⟩)⟩
   ·simp only [List.size_toArray, List.length_append, List.length_take, List.length_drop, Array.length_toList, strCells_length]
    omega
   ·rw [h6, ← hlen]
    exact List.take_left
  ·have hr := run_append_grow_string (P := P) w t u ty' e i (.int .u8 0) ht hu hi hz ⟨b, 0, none⟩ n cap xs (by rw [hs1]; simpa using hxl) (hown.cells (g := b) rfl) s (by omega) (by omega) (by rw [hby]; exact growslice_fits (by omega) (by omega))
   have hge := grownCap_ge w (n + s.size) cap e
   refine ⟨some (w.heap.size, grownCap w (n + s.size) cap e), _, hr, zn1 ⟨hlen, .inr ⟨w.heap.size, _, _, (0, 0), rfl, Nat.zero_le _, heap_alloc_new w.drew _, Nat.zero_le _, hge, grownCap_le_maxLen w (n + s.size) cap e hmx, ?_, ?_⟩⟩ (zj0 rfl rfl rfl (by simp) fun j hj _ => Below.heap_alloc w.drew _ j hj) (fun b c' h => .inl (by cases h; exact Nat.le_refl _))⟩
   ·have hz1 : (Value.int IntKind.u8 0).cells.size = 1 := rfl
    simp only [Array.size_append, List.size_toArray, size_zeroCells, hz1, hxl, strCells_length]
    omega
   ·simp only [Array.toList_append, List.append_assoc]
    rw [← List.append_assoc, ← hlen]
    exact List.take_left
theorem qe9 {T U T' e : TypeId} {x y : Operand} {o : Option (Nat × Nat)} {n : Nat} {xs : List Value} {s : ByteArray} (hok : zfj N l (.call ⟨.builtin .append, #[x, y], #[T, U]⟩) d = true) (hx : evO l x = some (slV o n)) (hy : evO l y = some (.string s))
  (hT : zka P T = some e) (hU : P.underlying U = some .string) (he : qh5 P e = true) (hn : n + s.size ≤ 140737488355328) :
  HO P ⟨some d, .call ⟨.builtin .append, #[x, y], #[T, U]⟩, T', pos, after, g⟩ Q N l (Hp w0 F (zqi e o n xs :: m)) (α := Option (Nat × Nat)) (fun o' => (d, slV o' (n + s.size)) :: l) (fun o' => Hp w0 F (zqi e o' (n + s.size) (xs ++ zaf s.data.toList) :: m)) :=
 zhr (val := fun o' => slV o' (n + s.size)) hok (fun w hw => by
  obtain ⟨i, h1, h2, h3, h4⟩ := zri he
  obtain ⟨o', w', hr, hits⟩ := qia (P := P) (ty' := T') (zbm hT) hU h1 h2 h3 h4 (hw.item (zqi e o n xs) (.head _)).1 s hn
  rw [zoe] at hits
  refine ⟨o', w', ?_, Hp.call (m := [zqi e o n xs]) hw hits (fun k' _ hk => ⟨zqi e o n xs, by simp, hk⟩)⟩
  simp only [execOp, resolve, invoke, builtin]
  simp [zax hx, zax hy, hr])
theorem zx4 {w : World} {b n : Nat} {cur : Array Value} {e : TypeId} {fz : Nat × Nat} (h : w.heap[b]? = some (.cells cur e fz)) (h2 : fz.2 ≤ n) : ∃ fz', (w.freeze ⟨b, 0, none⟩ n).heap[b]? = some (.cells cur e fz') ∧ fz'.2 ≤ n := by
 unfold World.freeze
 split
 ·exact ⟨fz, h, h2⟩
 ·obtain ⟨lo, hi⟩ := fz
  refine ⟨if lo == hi then (0, 0 + n) else (min lo 0, max hi (0 + n)), ?_, ?_⟩
  ·simp only [Array.getElem?_modify, h, if_true, Option.map_some]
  ·split
   ·simp
   ·simp only at h2 ⊢
    omega
theorem ql0 {pt' it' T' e : TypeId} {x y : Operand} {b c n : Nat} {k : Int} [h : NatOf k n] {s : ByteArray} (hok : zfj N l (.call ⟨.builtin .unsafeString, #[x, y], #[pt', it']⟩) d = true) (hx : evO l x = some (.pointer (some ⟨b, 0, none⟩))) (hy : evO l y = some (.int .i64 k)) (hT : qke P pt' = some e) (hc : P.cellsOf e = 1) (h0 : 0 < n) (hn : n = s.size) :
  HO P ⟨some d, .call ⟨.builtin .unsafeString, #[x, y], #[pt', it']⟩, T', pos, after, g⟩ Q N l (Hp w0 F (zqi e (some (b, c)) n (zaf s.data.toList) :: m)) (α := Unit) (fun _ => (d, .string s) :: l) (fun _ => Hp w0 F (zqi e (some (b, c)) n (zaf s.data.toList) :: m)) := by
 obtain rfl := h.eq
 exact zhr (val := fun _ => .string s) hok (fun w hw => by
  have hp := (hw.item (zqi e (some (b, c)) n (zaf s.data.toList)) (.head _)).1
  have hlen := ztx hp
  rcases hp.2 with ⟨h, -⟩ | ⟨b2, cap2, cur, fz, hv, -, h3, hfz, h2, h4, h5, h6⟩
  ·cases h
  cases hv
  rw [Nat.mul_one] at h5 h6 hfz
  have hsh : w.shape? b = some (e, cur.size) := by simp [World.shape?, h3]
  have hsl : s.data.toList.length = n := by rw [zpr]; exact hn.symm
  have hr := Lib.run_unsafeString_row (P := P) w pt' it' T' e (zhk hT).1 hc b cur.size hsh s.data.toList (by intro h; rw [h] at hsl; simp at hsl; omega) (by omega) (by unfold maxLen at h4; omega) (fun j x hx => by
   exact hp.cells (g := b) rfl j _ (by simp [zaf, hx]))
  obtain ⟨fz', hf1, hf2⟩ := zx4 h3 hfz
  refine ⟨(), w.freeze ⟨b, 0, none⟩ n, ?_, ?_⟩
  ·simp only [execOp, resolve, invoke, builtin]
   rw [hsl] at hr
   simp [zax hx, zax hy, hr]
  ·obtain ⟨f1, f2, f3⟩ := zxb (w := w) (b := b) (n := n)
   refine Hp.call (m := [zqi e (some (b, c)) n (zaf s.data.toList)]) hw (zn1 (o := some (b, c)) ⟨by rw [Nat.mul_one]; exact hlen, .inr ⟨b, c, cur, fz', rfl, Nat.zero_le _, hf1, by rw [Nat.mul_one]; exact hf2, h2, h4, by rw [Nat.mul_one]; exact h5, by rw [Nat.mul_one]; exact h6⟩⟩ ⟨f1, f2, f3, Nat.le_of_eq zw0.symm, fun k _ hk => zum fun e => hk ⟨c, by rw [e]⟩⟩ (fun b' c' h => .inr ⟨c', h⟩)) (fun k' _ hk => ⟨_, .head _, hk⟩))
end Go.Eng
