/- Words of 32 bits, as bit vectors: what each operation gives. -/
/- The checksum of bytes: by qpe bytes, and bit by bit; both give the qra, and each byte counts. -/
/- The document's constants by roots: what its loops compute, and that these are the program's constants. -/
/- The hash of bytes: what it is, over words of 32 bits. -/
/- Words of bytes as the program and the document put them together; bytes of numbers. -/
/- Openers and streams: what is read of bytes, what is put, and that each answers the other. -/
/- Keys, their order, sorted rows of keys and values: put, get, delete, from; parts that stand side by side. Own work; no condition. -/
/- Trees of pages: what they hold, their order, their sizes; a split. Own work; no condition. -/
import Derived.Test.YtkkfifhaobjicaaGreatDoorHb03
namespace Go.Eng
open Go.RowKit
set_option maxRecDepth 100000
section
variable {P : Program} {l : zat} {H : World → Prop} {x y : Operand} {xt yt ty : TypeId}
abbrev w32 (a : BitVec 32) : Value := .int .u32 (a.toNat : Int)
theorem zj2 (a : BitVec 32) : BitVec.ofInt 32 (a.toNat : Int) = a := by rw [zbu, BitVec.ofNat_toNat, BitVec.setWidth_eq]
theorem qn7 (n : Nat) : IntKind.u32.wrap (n : Int) = ((BitVec.ofNat 32 n).toNat : Int) := by rw [zg3, BitVec.toNat_ofNat]
theorem zs8 (a : BitVec 32) : IntKind.u32.wrap (a.toNat : Int) = (a.toNat : Int) := by rw [qn7, BitVec.ofNat_toNat, BitVec.setWidth_eq]
theorem qnt {a b : BitVec 32} (hx : evO l x = some (w32 a)) (hy : evO l y = some (w32 b)) : OV P (.binOp .xor xt x y yt) ty l H (w32 (a ^^^ b)) :=
 zuw (zf1 hx hy fun _ => rfl) (by
  show Value.int .u32 (IntKind.u32.wrap ((BitVec.ofInt 32 a.toNat ^^^ BitVec.ofInt 32 b.toNat).toNat)) = _
  rw [zj2, zj2, zs8])
theorem qju {a b : BitVec 32} (hx : evO l x = some (w32 a)) (hy : evO l y = some (w32 b)) : OV P (.binOp .and xt x y yt) ty l H (w32 (a &&& b)) :=
 zuw (zf1 hx hy fun _ => rfl) (by
  show Value.int .u32 (IntKind.u32.wrap ((BitVec.ofInt 32 a.toNat &&& BitVec.ofInt 32 b.toNat).toNat)) = _
  rw [zj2, zj2, zs8])
theorem qpt {a b : BitVec 32} (hx : evO l x = some (w32 a)) (hy : evO l y = some (w32 b)) : OV P (.binOp .or xt x y yt) ty l H (w32 (a ||| b)) :=
 zuw (zf1 hx hy fun _ => rfl) (by
  show Value.int .u32 (IntKind.u32.wrap ((BitVec.ofInt 32 a.toNat ||| BitVec.ofInt 32 b.toNat).toNat)) = _
  rw [zj2, zj2, zs8])
theorem qeu (a b : BitVec 32) : IntKind.u32.wrap ((a.toNat : Int) + (b.toNat : Int)) = ((a + b).toNat : Int) := by
 rw [← Int.natCast_add, zg3, BitVec.toNat_add]
theorem qh3 {a b : BitVec 32} (hx : evO l x = some (w32 a)) (hy : evO l y = some (w32 b)) : OV P (.binOp .add xt x y yt) ty l H (w32 (a + b)) :=
 zuw (zf1 hx hy fun _ => rfl) (by
  show Value.int .u32 (IntKind.u32.wrap ((a.toNat : Int) + (b.toNat : Int))) = _
  rw [qeu])
theorem qno {t : TypeId} {a : BitVec 32} (hx : evO l x = some (w32 a)) : OV P (.unOp .xor t x) ty l H (w32 (~~~a)) := ov fun _ _ _ w _ => by
 have e : (Op.unary .xor (.int .u32 a.toNat) : Sem Value).run P w = .ok (w32 (~~~a)) w := by
  show Result.ok (Value.int .u32 (IntKind.u32.wrap ((BitVec.ofInt 32 ((4294967295 : Nat) : Int) ^^^ BitVec.ofInt 32 (a.toNat : Int)).toNat))) w = _
  rw [zj2, zs8, show BitVec.ofInt 32 ((4294967295 : Nat) : Int) = BitVec.allOnes 32 from rfl, BitVec.allOnes_xor]
 simp only [execOp, zax hx, Sem.run_bind, e]; rfl
theorem zre {op : BinOp} {k q : IntKind} (hop : op = .shl ∨ op = .shr) (n : Int) (s : Nat) (w : World) :
  (do eqGuard op xt x y (.int k n) (.int q s); binOp op xt (.int k n) (.int q s) : Sem Value).run P w = .ok (match op with | .shl => .int k (k.wrap (n * 2 ^ (min s k.bits))) | _ => .int k (n.fdiv (2 ^ (min s k.bits)))) w := by
 have h0 : ¬ ((s : Int) < 0) := by omega
 rcases hop with rfl | rfl
 ·show ((binOp .shl xt (.int k n) (.int q s)).run P w) = _
  simp only [binOp, Op.shift, h0, if_false, Int.toNat_natCast]; rfl
 ·show ((binOp .shr xt (.int k n) (.int q s)).run P w) = _
  simp only [binOp, Op.shift, h0, if_false, Int.toNat_natCast]; rfl
theorem qjv {a : BitVec 32} {q : IntKind} {s : Nat} (hx : evO l x = some (w32 a)) (hy : evO l y = some (.int q s)) (hs : s ≤ 32) : OV P (.binOp .shr xt x y yt) ty l H (w32 (a >>> s)) :=
 zuw (zf1 hx hy (zre (.inr rfl) _ _)) (by
  have e : min s IntKind.u32.bits = s := by show min s 32 = s; omega
  have e2 : (2 : Int) ^ s = ((2 ^ s : Nat) : Int) := by simp
  have e3 : (a.toNat : Int).fdiv ((2 ^ s : Nat) : Int) = ((a >>> s).toNat : Int) := by
   rw [Int.fdiv_eq_ediv_of_nonneg _ (Int.natCast_nonneg _), BitVec.toNat_ushiftRight, Nat.shiftRight_eq_div_pow]; rfl
  simp only [e, e2, e3])
theorem qje {a : BitVec 32} {q : IntKind} {s : Nat} (hx : evO l x = some (w32 a)) (hy : evO l y = some (.int q s)) (hs : s ≤ 32) : OV P (.binOp .shl xt x y yt) ty l H (w32 (a <<< s)) :=
 zuw (zf1 hx hy (zre (.inl rfl) _ _)) (by
  have e : min s IntKind.u32.bits = s := by show min s 32 = s; omega
  have e2 : ((a.toNat : Int) * 2 ^ s) = ((a.toNat * 2 ^ s : Nat) : Int) := by simp
  have e3 : a.toNat * 2 ^ s % 4294967296 = (a <<< s).toNat := by rw [BitVec.toNat_shiftLeft, Nat.shiftLeft_eq]
  simp only [e, e2, zg3, e3])
theorem qqd {b : Nat} (h : b < 4294967296) : (b : Int) = ((BitVec.ofNat 32 b).toNat : Int) := by rw [BitVec.toNat_ofNat, Nat.mod_eq_of_lt h]
theorem qk2 {a : BitVec 32} {q : IntKind} {s : Nat} (hx : evO l x = some (w32 a)) (hy : evO l y = some (.int q (@OfNat.ofNat Int s _))) (hs : @OfNat.ofNat Nat s _ ≤ 32) : OV P (.binOp .shr xt x y yt) ty l H (w32 (a >>> (@OfNat.ofNat Nat s _))) := qjv hx hy hs
theorem qky {a : BitVec 32} {q : IntKind} {s : Nat} (hx : evO l x = some (w32 a)) (hy : evO l y = some (.int q (@OfNat.ofNat Int s _))) (hs : @OfNat.ofNat Nat s _ ≤ 32) : OV P (.binOp .shl xt x y yt) ty l H (w32 (a <<< (@OfNat.ofNat Nat s _))) := qje hx hy hs
theorem qk9 {a : BitVec 32} {b : Nat} (hx : evO l x = some (w32 a)) (hy : evO l y = some (.int .u32 (@OfNat.ofNat Int b _))) (hb : @OfNat.ofNat Nat b _ < 4294967296) : OV P (.binOp .and xt x y yt) ty l H (w32 (a &&& BitVec.ofNat 32 (@OfNat.ofNat Nat b _))) := qju hx (hy.trans (congrArg (fun i => some (Value.int .u32 i)) (qqd hb)))
end
end Go.Eng
namespace Go.Proofs.YtkkfifhaobjicaaGreatDoor
set_option maxRecDepth 100000
def halves : List (BitVec 32) := [0x00000000#32, 0x105ec76f#32, 0x20bd8ede#32, 0x30e349b1#32, 0x417b1dbc#32, 0x5125dad3#32, 0x61c69362#32, 0x7198540d#32, 0x82f63b78#32, 0x92a8fc17#32, 0xa24bb5a6#32, 0xb21572c9#32, 0xc38d26c4#32, 0xd3d3e1ab#32, 0xe330a81a#32, 0xf36e6f75#32]
def qpe (m : BitVec 32) : BitVec 32 := halves[(m &&& 15#32).toNat]?.getD 0 ^^^ m >>> 4
def qbx (n : BitVec 32) (c : UInt8) : BitVec 32 := qpe (qpe (n ^^^ BitVec.ofNat 32 c.toNat))
def zty (s : List UInt8) : BitVec 32 := ~~~ (s.foldl qbx (BitVec.allOnes 32))
/-! ### groups of 16 bits as a number -/
def val : List Nat → Nat
 | [] => 0
 | d :: l => d + 65536 * val l
abbrev W32 := BitVec 32
def qph (x : W32) (n : Nat) : W32 := x >>> n ||| x <<< (32 - n)
def sg0 (x : W32) : W32 := qph x 7 ^^^ qph x 18 ^^^ x >>> 3
def sg1 (x : W32) : W32 := qph x 17 ^^^ qph x 19 ^^^ x >>> 10
structure V8 where
 a : W32
 b : W32
 c : W32
 d : W32
 e : W32
 f : W32
 g : W32
 h : W32
def V8.l (v : V8) : List W32 := [v.a, v.b, v.c, v.d, v.e, v.f, v.g, v.h]
def V8.add (v w : V8) : V8 := ⟨v.a + w.a, v.b + w.b, v.c + w.c, v.d + w.d, v.e + w.e, v.f + w.f, v.g + w.g, v.h + w.h⟩
def qfp (m : Nat → W32) (i : Nat) : W32 :=
 if h : i < 16 then m i else qfp m (i - 16) + sg0 (qfp m (i - 15)) + qfp m (i - 7) + sg1 (qfp m (i - 2))
termination_by i
decreasing_by all_goals omega
/-! ### the qq5 of the program -/
def qoo (n j : Nat) : Nat := max n 16 - 16 + (j + 15 * max n 16) % 16
def qq5 (m : Nat → W32) (n : Nat) : List W32 := (List.range 16).map fun j => qfp m (qoo n j)
def beN : Nat → Nat → List UInt8
 | 0, _ => []
 | w + 1, n => beN w (n / 256) ++ [UInt8.ofNat n]
theorem zao : ∀ (w n : Nat), (beN w n).length = w
 | 0, _ => rfl
 | w + 1, n => by rw [beN, List.length_append, zao w]; rfl
def beV (l : List UInt8) : Nat := l.foldl (fun n c => n * 256 + c.toNat) 0
theorem zzy (l : List UInt8) (c : UInt8) : beV (l ++ [c]) = beV l * 256 + c.toNat := by
 rw [beV, beV, List.foldl_append]; rfl
theorem zyi : ∀ (w n : Nat), n < 256 ^ w → beV (beN w n) = n
 | 0, n, h => by simp at h; subst h; rfl
 | w + 1, n, h => by
  rw [beN, zzy, zyi w (n / 256) (by rw [Nat.pow_succ] at h; omega)]
  have : (UInt8.ofNat n).toNat = n % 256 := by simp
  rw [this]
  omega
theorem qd2 : ∀ (l : List UInt8) (n k : Nat), n < 256 ^ k → l.foldl (fun n c => n * 256 + c.toNat) n < 256 ^ (k + l.length)
 | [], _, _, h => h
 | c :: l, n, k, h => by
  have hc := c.toNat_lt
  have := qd2 l (n * 256 + c.toNat) (k + 1) (by rw [Nat.pow_succ]; omega)
  rw [List.foldl_cons, List.length_cons, show k + (l.length + 1) = k + 1 + l.length by omega]
  exact this
theorem qj3 (l : List UInt8) : beV l < 256 ^ l.length := by
 have := qd2 l 0 0 (by decide)
 rwa [Nat.zero_add] at this
abbrev Bys := List UInt8
abbrev Opn := Bys × Bool
def opT (n : Nat) (o : Opn) : Bys × Opn := if o.2 then ([], o) else if o.1.length < n then ([], (o.1, true)) else (o.1.take n, (o.1.drop n, false))
def opN (w : Nat) (o : Opn) : Nat × Opn := (beV (opT w o).1, (opT w o).2)
theorem zp0 (a b : Bys) : opT a.length (a ++ b, false) = (a, (b, false)) := by
 unfold opT
 simp
theorem zh9 {w n : Nat} (h : n < 256 ^ w) (b : Bys) : opN w (beN w n ++ b, false) = (n, (b, false)) := by
 have := zp0 (beN w n) b
 rw [zao] at this
 rw [opN, this]
 simp only [zyi w n h]
theorem qfl (n : Nat) (r : Bys) : opT n (r, true) = ([], (r, true)) := by simp [opT]
theorem zo9 (n : Nat) (o : Opn) : (opT n o).1.length ≤ n := by
 unfold opT
 split
 ·simp
 ·split
  ·simp
  ·rw [List.length_take]; omega
def chP (l : List Bys) : Bys := l.flatMap fun c => beN 2 c.length ++ c
structure qqp where
 root : Bys
 chunks : List Bys
def qns : Bys := [65, 82, 83, 84]
def qnn (x : qqp) : Bys := qns ++ x.root ++ beN 2 x.chunks.length ++ chP x.chunks
def qq6 (s : Bys) : Bys := beN 4 (zty s).toNat
def putF (x : qqp) : Bys := qnn x ++ qq6 (qnn x)
end Go.Proofs.YtkkfifhaobjicaaGreatDoor
namespace Go.Eng.Tr
set_option maxRecDepth 100000
abbrev K := List UInt8
def kl (a b : K) : Prop := Op.bytesLess a b = true
instance (a b : K) : Decidable (kl a b) := inferInstanceAs (Decidable (_ = _))
theorem zdu : ∀ a : K, ¬ kl a a
 | [], h => by cases h
 | a :: x, h => by
  unfold kl Op.bytesLess at h
  rw [Bool.or_eq_true] at h
  rcases h with h | h
  ·exact absurd (of_decide_eq_true h) (UInt8.lt_irrefl _)
  ·rw [Bool.and_eq_true] at h; exact zdu x h.2
theorem zb5 : ∀ {a b c : K}, kl a b → kl b c → kl a c
 | _, [], _, h, _ => by unfold kl Op.bytesLess at h; cases h
 | _, _ :: _, [], _, h => by unfold kl Op.bytesLess at h; cases h
 | [], _ :: _, _ :: _, _, _ => rfl
 | a :: x, b :: y, c :: z, h1, h2 => by
  unfold kl Op.bytesLess at h1 h2 ⊢
  simp only [Bool.or_eq_true, Bool.and_eq_true, decide_eq_true_eq, beq_iff_eq] at h1 h2 ⊢
  rcases h1 with h1 | ⟨rfl, h1⟩
  ·rcases h2 with h2 | ⟨rfl, h2⟩
   ·exact .inl (UInt8.lt_trans h1 h2)
   ·exact .inl h1
  ·rcases h2 with h2 | ⟨rfl, h2⟩
   ·exact .inl h2
   ·exact .inr ⟨rfl, zb5 (a := x) (b := y) (c := z) h1 h2⟩
theorem zll : ∀ (a b : K), kl a b ∨ a = b ∨ kl b a
 | [], [] => .inr (.inl rfl)
 | [], _ :: _ => .inl rfl
 | _ :: _, [] => .inr (.inr rfl)
 | a :: x, b :: y => by
  unfold kl Op.bytesLess
  simp only [Bool.or_eq_true, Bool.and_eq_true, decide_eq_true_eq, beq_iff_eq]
  rcases Nat.lt_trichotomy a.toNat b.toNat with h | h | h
  ·exact .inl (.inl (UInt8.lt_iff_toNat_lt.2 h))
  ·obtain rfl : a = b := UInt8.toNat_inj.1 h
   rcases zll x y with h | rfl | h
   ·exact .inl (.inr ⟨rfl, h⟩)
   ·exact .inr (.inl rfl)
   ·exact .inr (.inr (.inr ⟨rfl, h⟩))
  ·exact .inr (.inr (.inl (UInt8.lt_iff_toNat_lt.2 h)))
theorem ze0 {a b : K} (h : kl a b) : ¬ kl b a := fun h' => zdu a (zb5 h h')
theorem zhg {a b : K} (h : kl a b) : a ≠ b := fun e => zdu b (e ▸ h)
theorem qnb {a b : K} (h : ¬ kl a b) (hne : a ≠ b) : kl b a := by
 rcases zll a b with h1 | h1 | h1
 ·exact absurd h1 h
 ·exact absurd h1 hne
 ·exact h1
theorem qkh {a b : K} (h : ¬ kl a b) : kl b a ∨ b = a := by
 rcases zll a b with h1 | h1 | h1
 ·exact absurd h1 h
 ·exact .inr h1.symm
 ·exact .inl h1
theorem zdg {a b c : K} (h1 : ¬ kl b a) (h2 : kl b c) : kl a c := by
 rcases qkh h1 with h | rfl
 ·exact zb5 h h2
 ·exact h2
theorem zti {a b c : K} (h1 : kl a b) (h2 : ¬ kl c b) : kl a c := by
 rcases qkh h2 with h | rfl
 ·exact zb5 h1 h
 ·exact h1
/-! ### places in a row of keys -/
def Ks (l : List K) : Prop := l.Pairwise kl
def lb (ns : List K) (t : K) : Nat := (ns.takeWhile fun x => decide (kl x t)).length
def fd (ns : List K) (t : K) : Bool := decide (ns[lb ns t]? = some t)
theorem zvj (ns : List K) (t : K) : lb ns t ≤ ns.length := (List.takeWhile_sublist _).length_le
theorem qon {ns : List K} {t : K} : ∀ {k : Nat} (h : k < ns.length), k < lb ns t → kl ns[k] t := by
 induction ns with
 | nil => intro k h; simp at h
 | cons x r ih =>
  intro k h hk
  by_cases hx : kl x t
  ·have e : lb (x :: r) t = lb r t + 1 := by simp [lb, hx]
   cases k with
   | zero => exact hx
   | succ k => exact ih (k := k) (by simpa using h) (by omega)
  ·have e : lb (x :: r) t = 0 := by simp [lb, hx]
   omega
theorem qp4 {ns : List K} {t : K} (hs : Ks ns) : ∀ {k : Nat} (h : k < ns.length), lb ns t ≤ k → ¬ kl ns[k] t := by
 induction ns with
 | nil => intro k h; simp at h
 | cons x r ih =>
  obtain ⟨hs1, hs2⟩ := List.pairwise_cons.1 hs
  intro k h hk
  by_cases hx : kl x t
  ·have e : lb (x :: r) t = lb r t + 1 := by simp [lb, hx]
   cases k with
   | zero => omega
   | succ k => exact ih hs2 (k := k) (by simpa using h) (by omega)
  ·cases k with
   | zero => exact hx
   | succ k => exact fun h' => hx (zb5 (hs1 _ (List.getElem_mem (by simpa using h))) h')
theorem qos {ns : List K} {t : K} : ∀ {i : Nat}, i ≤ ns.length → (∀ k (h : k < ns.length), k < i → kl ns[k] t) → (∀ h : i < ns.length, ¬ kl ns[i] t) → lb ns t = i := by
 induction ns with
 | nil => intro i h _ _; simp at h; simp [lb, h]
 | cons x r ih =>
  intro i h h1 h2
  cases i with
  | zero => have := h2 (by simp); simp only [List.getElem_cons_zero] at this; simp [lb, this]
  | succ i =>
   have h3 := h1 0 (by simp) (by omega)
   simp only [List.getElem_cons_zero] at h3
   have h4 := ih (i := i) (by simpa using h) (fun k hk hki => by have := h1 (k + 1) (by simpa using hk) (by omega); simpa using this) (fun hk => by have := h2 (by simpa using hk); simpa using this)
   simp only [lb] at h4
   simp [lb, h3, h4]
theorem ziq {ns : List K} {t : K} : fd ns t = true ↔ ns[lb ns t]? = some t := by simp [fd]
theorem zzq {ns : List K} {t : K} (hs : Ks ns) : fd ns t = true ↔ t ∈ ns := by
 rw [ziq]
 refine ⟨List.mem_of_getElem?, fun h => ?_⟩
 obtain ⟨i, hi, rfl⟩ := List.getElem_of_mem h
 have e : lb ns ns[i] = i := qos (by omega) (fun k hk hki => List.pairwise_iff_getElem.1 hs k i hk hi hki) (fun _ => zdu _)
 rw [e, List.getElem?_eq_getElem hi]
def dn (ns : List K) (t : K) : Nat := if fd ns t then lb ns t + 1 else lb ns t
theorem znq (ns : List K) (t : K) : dn ns t ≤ ns.length := by
 unfold dn
 split
 ·rename_i h
  have := (List.getElem?_eq_some_iff.1 (ziq.1 h)).1
  omega
 ·exact zvj ns t
theorem qm1 {ns : List K} {t : K} {k : Nat} (h : k < ns.length) (hk : k < dn ns t) : ¬ kl t ns[k] := by
 unfold dn at hk
 split at hk
 ·rename_i hf
  rcases Nat.lt_succ_iff_lt_or_eq.1 hk with h1 | rfl
  ·exact ze0 (qon h h1)
  ·have := ziq.1 hf
   rw [List.getElem?_eq_getElem h] at this
   rw [Option.some.inj this]
   exact zdu _
 ·exact ze0 (qon h hk)
theorem qne {ns : List K} {t : K} (hs : Ks ns) {k : Nat} (h : k < ns.length) (hk : dn ns t ≤ k) : kl t ns[k] := by
 unfold dn at hk
 split at hk
 ·rename_i hf
  have h1 := ziq.1 hf
  obtain ⟨h2, h3⟩ := List.getElem?_eq_some_iff.1 h1
  have := List.pairwise_iff_getElem.1 hs (lb ns t) k h2 h (by omega)
  rwa [h3] at this
 ·rename_i hf
  have h1 := qp4 hs h hk
  rcases qkh h1 with h2 | h2
  ·exact h2
  ·exfalso
   apply hf
   rw [zzq hs, h2]
   exact List.getElem_mem h
/-! ### rows of keys and values -/
abbrev E := List (K × K)
def Es (e : E) : Prop := Ks (e.map (·.1))
def zfl : E → K → K → E
 | [], k, v => [(k, v)]
 | p :: r, k, v => if k = p.1 then (k, v) :: r else if kl k p.1 then (k, v) :: p :: r else p :: zfl r k v
def zlo (e : E) (k : K) : Option K := (e.find? fun p => decide (p.1 = k)).map (·.2)
def zcy (e : E) (k : K) : E := e.filter fun p => decide (p.1 ≠ k)
def zia (e : E) (k : K) (also : Bool) : Option (K × K) := e.find? fun p => decide (kl k p.1) || also && decide (p.1 = k)
def ze6 (e : E) (k : K) : Prop := ∀ p ∈ e, kl p.1 k
def zxf (e : E) (k : K) : Prop := ∀ p ∈ e, kl k p.1
theorem qeo {A : E} {k : K} (h : ze6 A k) (e : E) (v : K) : zfl (A ++ e) k v = A ++ zfl e k v := by
 induction A with
 | nil => rfl
 | cons p A ih =>
  have hp := h p (.head _)
  show (if k = p.1 then _ else if kl k p.1 then _ else p :: zfl (A ++ e) k v) = _
  rw [if_neg (fun h => zhg hp h.symm), if_neg (ze0 hp), ih fun q hq => h q (.tail _ hq)]
  rfl
theorem qf4 {B : E} {k v : K} (h : zxf B k) : zfl B k v = (k, v) :: B := by
 cases B with
 | nil => rfl
 | cons p B =>
  have hp := h p (.head _)
  show (if k = p.1 then _ else if kl k p.1 then _ else _) = _
  rw [if_neg (zhg hp), if_pos hp]
theorem zr9 {B : E} {k v : K} (h : zxf B k) : ∀ e : E, zfl (e ++ B) k v = zfl e k v ++ B
 | [] => qf4 h
 | p :: e => by
  show (if k = p.1 then _ else if kl k p.1 then _ else p :: zfl (e ++ B) k v) = (if k = p.1 then _ else if kl k p.1 then _ else p :: zfl e k v) ++ B
  split
  ·rfl
  ·split
   ·rfl
   ·rw [zr9 h e]; rfl
theorem qio {A e B : E} {k v : K} (hA : ze6 A k) (hB : zxf B k) : zfl (A ++ (e ++ B)) k v = A ++ (zfl e k v ++ B) := by
 rw [qeo hA, zr9 hB]
theorem qg9 {A e B : E} {k : K} (hA : ze6 A k) (hB : zxf B k) : zlo (A ++ (e ++ B)) k = zlo e k := by
 have h1 : A.find? (fun p => decide (p.1 = k)) = none := List.find?_eq_none.2 fun p hp => by simpa using zhg (hA p hp)
 have h2 : B.find? (fun p => decide (p.1 = k)) = none := List.find?_eq_none.2 fun p hp => by simpa using (zhg (hB p hp)).symm
 unfold zlo
 rw [List.find?_append, List.find?_append, h1, h2]
 simp
theorem qja {A e B : E} {k : K} (hA : ze6 A k) (hB : zxf B k) : zcy (A ++ (e ++ B)) k = A ++ (zcy e k ++ B) := by
 have h1 : A.filter (fun p => decide (p.1 ≠ k)) = A := List.filter_eq_self.2 fun p hp => by simpa using zhg (hA p hp)
 have h2 : B.filter (fun p => decide (p.1 ≠ k)) = B := List.filter_eq_self.2 fun p hp => by simpa using (zhg (hB p hp)).symm
 unfold zcy
 rw [List.filter_append, List.filter_append, h1, h2]
structure Sh where
 kw : Nat
 vw : Nat
def Sh.cap (s : Sh) : Nat := 508 / (s.kw + s.vw)
def Sh.fan (s : Sh) : Nat := (508 + s.kw) / (s.kw + 2)
def T : Nat → Type
 | 0 => Nat × E
 | h + 1 => Nat × List K × List (T h)
def pg : {h : Nat} → T h → Nat
 | 0, t => t.1
 | _ + 1, t => t.1
def ents : {h : Nat} → T h → E
 | 0, t => t.2
 | _ + 1, t => t.2.2.flatMap ents
def pgs : {h : Nat} → T h → List Nat
 | 0, t => [t.1]
 | _ + 1, t => t.1 :: t.2.2.flatMap pgs
def zbk (p : Nat) (es : E) : T 0 := (p, es)
def zaw {h : Nat} (p : Nat) (ks : List K) (kids : List (T h)) : T (h + 1) := (p, ks, kids)
def zgn (e : E) (k : K) : Prop := ∀ p ∈ e, ¬ kl p.1 k
def Sep : List K → List E → Prop
 | [], [_] => True
 | k :: ks, e :: es => ze6 e k ∧ (∀ e' ∈ es, zgn e' k) ∧ Sep ks es
 | _, _ => False
def Ord : {h : Nat} → T h → Prop
 | 0, t => Es t.2
 | _ + 1, t => Ks t.2.1 ∧ Sep t.2.1 (t.2.2.map ents) ∧ ∀ x ∈ t.2.2, Ord x
def Wd (s : Sh) : {h : Nat} → T h → Prop
 | 0, t => ∀ p ∈ t.2, p.1.length = s.kw ∧ p.2.length = s.vw
 | _ + 1, t => (∀ k ∈ t.2.1, k.length = s.kw) ∧ ∀ x ∈ t.2.2, Wd s x
def sz : {h : Nat} → T h → Nat
 | 0, t => t.2.length
 | _ + 1, t => t.2.2.length
def mx (s : Sh) : Nat → Nat
 | 0 => s.cap
 | _ + 1 => s.fan
def Below (s : Sh) : {h : Nat} → T h → Prop
 | 0, _ => True
 | h + 1, t => ∀ x ∈ t.2.2, mx s h / 2 ≤ sz x ∧ sz x ≤ mx s h ∧ Below s x
theorem Sep.len : ∀ {ks : List K} {es : List E}, Sep ks es → es.length = ks.length + 1
 | [], [_], _ => rfl
 | _ :: ks, _ :: es, h => by rw [List.length_cons, List.length_cons, Sep.len h.2.2]
theorem Sep.lt : ∀ {ks : List K} {es : List E}, Sep ks es → ∀ {i j : Nat} (hi : i < ks.length) (hj : j < es.length), j ≤ i → ze6 es[j] ks[i] → ze6 es[j] ks[i] := fun _ _ _ _ _ _ h => h
theorem Sep.part {ks : List K} {es : List E} (hk : Ks ks) (h : Sep ks es) : (∀ i j (hi : i < ks.length) (hj : j < es.length), j ≤ i → ze6 es[j] ks[i]) ∧ ∀ i j (hi : i < ks.length) (hj : j < es.length), i < j → zgn es[j] ks[i] := by
 induction ks generalizing es with
 | nil => exact ⟨fun i j hi => absurd hi (Nat.not_lt_zero _), fun i j hi => absurd hi (Nat.not_lt_zero _)⟩
 | cons k ks ih =>
  cases es with
  | nil => exact absurd h (by simp [Sep])
  | cons e es =>
   obtain ⟨h1, h2, h3⟩ := h
   obtain ⟨k1, k2⟩ := List.pairwise_cons.1 hk
   obtain ⟨i1, i2⟩ := ih k2 h3
   refine ⟨fun i j hi hj hij => ?_, fun i j hi hj hij => ?_⟩
   ·cases j with
    | zero =>
     cases i with
     | zero => exact h1
     | succ i => exact fun p hp => zb5 (h1 p hp) (k1 _ (List.getElem_mem _))
    | succ j =>
     cases i with
     | zero => omega
     | succ i => exact i1 i j (by simpa using hi) (by simpa using hj) (by omega)
   ·cases j with
    | zero => omega
    | succ j =>
     cases i with
     | zero => exact h2 _ (List.getElem_mem _)
     | succ i => exact i2 i j (by simpa using hi) (by simpa using hj) (by omega)
theorem Sep.of {ks : List K} {es : List E} (hl : es.length = ks.length + 1) (h1 : ∀ i (hi : i < ks.length) (hj : i < es.length), ze6 es[i] ks[i]) (h2 : ∀ i j (hi : i < ks.length) (hj : j < es.length), i < j → zgn es[j] ks[i]) : Sep ks es := by
 induction ks generalizing es with
 | nil =>
  match es, hl with
  | [_], _ => trivial
 | cons k ks ih =>
  cases es with
  | nil => simp at hl
  | cons e es =>
   refine ⟨h1 0 (by simp) (by simp), fun e' he => ?_, ih (by simpa using hl) (fun i hi hj => h1 (i + 1) (by simpa using hi) (by simpa using hj)) fun i j hi hj hij => h2 (i + 1) (j + 1) (by simpa using hi) (by simpa using hj) (by omega)⟩
   obtain ⟨j, hj, rfl⟩ := List.getElem_of_mem he
   exact h2 0 (j + 1) (by simp) (by simpa using hj) (by omega)
/-! ### what is less lies ahead -/
theorem zhc {α : Type} (l : List α) (f : α → E) {i : Nat} (hi : i < l.length) : l.flatMap f = (l.take i).flatMap f ++ (f l[i] ++ (l.drop (i + 1)).flatMap f) := by
 conv => lhs; rw [← List.take_append_drop i l, List.drop_eq_getElem_cons hi]
 rw [List.flatMap_append, List.flatMap_cons]
theorem Sep.mid {h : Nat} {ks : List K} {kids : List (T h)} (hk : Ks ks) (hs : Sep ks (kids.map ents)) (key : K) : ze6 ((kids.take (dn ks key)).flatMap ents) key ∧ zxf ((kids.drop (dn ks key + 1)).flatMap ents) key := by
 obtain ⟨p1, p2⟩ := hs.part hk
 have hl := hs.len
 rw [List.length_map] at hl
 refine ⟨fun p hp => ?_, fun p hp => ?_⟩
 ·obtain ⟨x, hx, hpx⟩ := List.mem_flatMap.1 hp
  obtain ⟨j, hj, rfl⟩ := List.getElem_of_mem hx
  rw [List.length_take] at hj
  have hj2 : j < kids.length := by omega
  rw [List.getElem_take] at hpx
  have hjk : j < ks.length := by have := znq ks key; omega
  have h1 := p1 j j hjk (by rw [List.length_map]; exact hj2) (Nat.le_refl _)
  rw [List.getElem_map] at h1
  exact zti (h1 p hpx) (qm1 hjk (by omega))
 ·obtain ⟨x, hx, hpx⟩ := List.mem_flatMap.1 hp
  obtain ⟨j, hj, rfl⟩ := List.getElem_of_mem hx
  rw [List.length_drop] at hj
  rw [List.getElem_drop] at hpx
  have hd : dn ks key < ks.length := by omega
  have h1 := p2 (dn ks key) (dn ks key + 1 + j) hd (by rw [List.length_map]; omega) (by omega)
  rw [List.getElem_map] at h1
  exact zti (qne hk hd (Nat.le_refl _)) (h1 p hpx)
/-! ### a split -/
def nw (n : Nat) (S : Nat → Bool) : Nat := ((List.range n).find? fun i => !S i).getD 0
def us (S : Nat → Bool) (i : Nat) (u : Bool) : Nat → Bool := fun j => if j = i then u else S j
abbrev Res (h : Nat) := T h × Option (K × T h) × (Nat → Bool)
def zcc (s : Sh) (n : Nat) (S : Nat → Bool) : {h : Nat} → T h → Res h
 | 0, t => if t.2.length ≤ s.cap then (t, none, S) else
  (zbk t.1 (t.2.take (t.2.length / 2)), some (((t.2.drop (t.2.length / 2)).map (·.1)).headD [], zbk (nw n S) (t.2.drop (t.2.length / 2))), us S (nw n S) true)
 | _ + 1, t => if t.2.2.length ≤ s.fan then (t, none, S) else
  (zaw t.1 (t.2.1.take (t.2.2.length / 2 - 1)) (t.2.2.take (t.2.2.length / 2)), some (t.2.1.getD (t.2.2.length / 2 - 1) [], zaw (nw n S) (t.2.1.drop (t.2.2.length / 2)) (t.2.2.drop (t.2.2.length / 2))), us S (nw n S) true)
structure zkf (s : Sh) {h : Nat} (t : T h) (es : E) (r : Res h) : Prop where
 page : pg r.1 = pg t
 none : r.2.1 = none → ents r.1 = es ∧ Ord r.1 ∧ Wd s r.1 ∧ sz r.1 ≤ mx s h ∧ Below s r.1
 some : ∀ k d, r.2.1 = some (k, d) → ents r.1 ++ ents d = es ∧ Ord r.1 ∧ Ord d ∧ Wd s r.1 ∧ Wd s d ∧ k.length = s.kw ∧ ze6 (ents r.1) k ∧ zgn (ents d) k ∧ mx s h / 2 ≤ sz r.1 ∧ sz r.1 ≤ mx s h ∧ mx s h / 2 ≤ sz d ∧ sz d ≤ mx s h ∧ Below s r.1 ∧ Below s d
theorem Es.take {e : E} (h : Es e) (k : Nat) : Es (e.take k) := by unfold Es at *; rw [List.map_take]; exact List.Pairwise.sublist (List.take_sublist _ _) h
theorem Es.drop {e : E} (h : Es e) (k : Nat) : Es (e.drop k) := by unfold Es at *; rw [List.map_drop]; exact List.Pairwise.sublist (List.drop_sublist _ _) h
theorem Sep.cut {ks : List K} {es : List E} (hk : Ks ks) (h : Sep ks es) {m : Nat} (h0 : 0 < m) (hm : m < es.length) : Sep (ks.take (m - 1)) (es.take m) ∧ Sep (ks.drop m) (es.drop m) := by
 obtain ⟨p1, p2⟩ := h.part hk
 have hl := h.len
 refine ⟨Sep.of (by rw [List.length_take, List.length_take]; omega) (fun i hi hj => ?_) fun i j hi hj hij => ?_, Sep.of (by rw [List.length_drop, List.length_drop]; omega) (fun i hi hj => ?_) fun i j hi hj hij => ?_⟩
 ·rw [List.getElem_take, List.getElem_take]
  rw [List.length_take] at hi hj
  exact p1 i i (by omega) (by omega) (Nat.le_refl _)
 ·rw [List.getElem_take, List.getElem_take]
  rw [List.length_take] at hi hj
  exact p2 i j (by omega) (by omega) hij
 ·rw [List.getElem_drop, List.getElem_drop]
  rw [List.length_drop] at hi hj
  exact p1 (m + i) (m + i) (by omega) (by omega) (Nat.le_refl _)
 ·rw [List.getElem_drop, List.getElem_drop]
  rw [List.length_drop] at hi hj
  exact p2 (m + i) (m + j) (by omega) (by omega) (by omega)
end Go.Eng.Tr
