/- Strings and slices: slicing, '==', '+'; strings in memory. Own work; no condition. -/
/- Rows that a function owns and appends to; what slices read. Own work over the guide's laws; no condition. -/
/- Short ways for the calculus: values and side conditions by instances. Own work; no condition. -/
/- Words of 32 bits, as bit vectors: what each operation gives. -/
/- The checksum of bytes: by qqq bytes, and bit by bit; both give the qso, and each byte counts. -/
/- The document's constants by roots: what its loops compute, and that these are the program's constants. -/
/- The hash of bytes: what it is, over words of 32 bits. -/
/- Words of bytes as the program and the document put them together; bytes of numbers. -/
/- Openers and streams: what is read of bytes, what is put, and that each answers the other. -/
/- Keys, their order, sorted rows of keys and values: put, get, delete, from; parts that stand side by side. Own work; no condition. -/
/- Trees of pages: what they hold, their order, their sizes; a split. Own work; no condition. -/
/- Trees of pages: a split, and what it keeps. Own work; no condition. -/
import Derived.Test.YtkkfifhaobjicaaGreatDoorHc00
import Derived.Laws.Strings2
import Derived.Laws.Strings3
import Derived.Laws.OwnMore
import Derived.Laws.Externs
import Derived.Lib.Bytealg
namespace Go.Eng
open Go.RowKit
variable {P : Program} {Q : Exit → Act → World → Prop} {N : Fm} {l : zaq} {H : World → Prop} {ops : Array Oper} {rest : List Oper} {w0 : World} {F : Nat → Prop} {m : List Item} {ty : TypeId} {pos : String} {after : Array Edge} {g : Option (Nat × Bool)} {d : Nat}
/-! ### slicing of strings -/
theorem qkd {T : TypeId} {x y : Operand} {s : ByteArray} {k : IntKind} {i : Nat} (hx : evO l x = some (.string s)) (hy : evO l y = some (.int k i)) (hT : P.underlying T = some .string) (hi : i ≤ s.size) : OV P (.slice T x (some y) none none) ty l H (.string (s.extract i s.size)) := ov fun _ _ _ w _ => by
 have h := run_slice_string_l (P := P) w T s hT k i oQ oQ
 simp only [execOp, zau hx, cK, eR, zau hy, Sem.run_bind, run_sliceAt_string w T _ _ _ _ hT, h, bT]
 rfl
theorem qke {T : TypeId} {x y : Operand} {s : ByteArray} {k : IntKind} {i : Nat} (hx : evO l x = some (.string s)) (hy : evO l y = some (.int k i)) (hT : P.underlying T = some .string) (hi : i ≤ s.size) : OV P (.slice T x none (some y) none) ty l H (.string (s.extract 0 i)) := ov fun _ _ _ w _ => by
 have h := run_slice_string_h (P := P) w T s hT k i oQ oQ
 simp only [execOp, zau hx, cK, eR, zau hy, Sem.run_bind, run_sliceAt_string w T _ _ _ _ hT, h, bT]
 rfl
theorem qnu {T : TypeId} {x y z : Operand} {s : ByteArray} {k k' : IntKind} {i j : Nat} (hx : evO l x = some (.string s)) (hy : evO l y = some (.int k i)) (hz : evO l z = some (.int k' j)) (hT : P.underlying T = some .string) (hi : i ≤ j) (hj : j ≤ s.size) : OV P (.slice T x (some y) (some z) none) ty l H (.string (s.extract i j)) := ov fun _ _ _ w _ => by
 have h := run_slice_string (P := P) w T s k k' i j hT oQ oQ oQ
 simp only [execOp, zau hx, cK, eR, zau hy, zau hz, Sem.run_bind, run_sliceAt_string w T _ _ _ _ hT, h, bT]
 rfl
/-! ### '==' and '!=' of strings -/
theorem qef {a b : ByteArray} (h : a.data.toList = b.data.toList) : a = b := by
 cases a; cases b; congr; exact Array.toList_inj.1 h
theorem zoq (a b : ByteArray) : (a.toList == b.toList) = decide (a = b) := by
 rw [ByteArray.toList_eq, ByteArray.toList_eq, dA]
 simp only [beq_iff_eq, decide_eq_true_eq]
 exact ⟨qef, fun h => by rw [h]⟩
def seq (a b : ByteArray) : Bool := decide (a = b)
theorem qg7 (a b : ByteArray) : decide (a = b) = seq a b := rfl
theorem zug {a b : ByteArray} : seq a b = true ↔ a = b := by simp [seq]
theorem qjz (a b : ByteArray) : seq a b = (a.data.toList == b.data.toList) := by
 rw [← qg7, ← zoq, ByteArray.toList_eq, ByteArray.toList_eq]
theorem zw2 {T U : TypeId} {x y : Operand} {a b : ByteArray} (hx : evO l x = some (.string a)) (hy : evO l y = some (.string b)) : OV P (.binOp .eql T x y U) ty l H (.bool (seq a b)) := by
 rw [← qg7, ← zoq]
 exact zfm hx hy fun _ => rfl
/-! ### slicing of slices -/
def zrc (a : Option Addr) (room : Bool) (k : Nat) : Option Addr := if room then a else a.map (·.add k)
theorem qqg {T e : TypeId} {x y : Operand} {a : Option Addr} {n c sz : Nat} {k : IntKind} {i : Nat} (hx : evO l x = some (.slice a n c)) (hy : evO l y = some (.int k i)) (hT : zks P T = some e) (he : zc3 P e = some sz) (hi : i ≤ n) : OV P (.slice T x (some y) none none) ty l H (.slice (zrc a (decide (c = i)) (i * sz)) (n - i) (c - i)) := ov fun _ _ _ w _ => by
 have hu := zbk hT
 have hu' : P.underlying T = some (.slice (P.elem T)) := by rw [hu]; simp [Program.elem, hu]
 have he' : P.elem T = e := by simp [Program.elem, hu]
 obtain ⟨q, hq, hqs⟩ := zbp he
 have h := run_slice_l (P := P) w T a n c hu' k i oQ oQ
 have hz : (sizeOf (P.elem T)).run P w = .ok sz w := by rw [he']; simp [sizeOf, typeInfo, hq, hqs]
 simp only [execOp, zau hx, cK, eR, zau hy, Sem.run_bind, run_sliceAt_slice w T _ _ _ _ hu', h, hz, Result.andThen_ok, bT, sliced, zrc]
 simp [Sem.run_pure]
/-! ### texts as lists of bytes -/
theorem zve (s : ByteArray) (i : Nat) : (s.extract i s.size).data.toList = s.data.toList.drop i := by
 simp [ByteArray.data_extract, Array.toList_extract, cA]
theorem zom (a : ByteArray) : a.data.toList.length = a.size := by simp
attribute [irreducible] seq
variable {P : Program} {Q : Exit → Act → World → Prop} {N : Fm} {l : zaq} {H : World → Prop} {ops : Array Oper} {rest : List Oper} {w0 : World} {F : Nat → Prop} {m : List Item} {ty : TypeId} {pos : String} {after : Array Edge} {g : Option (Nat × Bool)} {d : Nat}
def slV : Option (Nat × Nat) → Nat → Value
 | none, _ => .slice none 0 0
 | some (b, c), n => .slice (some ⟨b, 0, none⟩) n c
def own (e : TypeId) (sz : Nat) (o : Option (Nat × Nat)) (n : Nat) (xs : List Value) : Item :=
 ⟨fun k => ∃ c, o = some (k, c), fun w => xs.length = n * sz ∧ (match o with
  | none => n = 0
  | some (b, c) => n ≤ c ∧ c ≤ maxLen ∧ ∃ cur : Array Value, w.heap[b]? = some (.cells cur e (0, 0)) ∧ cur.size = c * sz ∧ cur.toList.take (n * sz) = xs)⟩
theorem zab (ro : Nat → Prop) (e : TypeId) (sz : Nat) (o : Option (Nat × Nat)) (n : Nat) (xs : List Value) : (own e sz o n xs).Stable ro := by
 intro w w' h hp
 refine ⟨hp.1, ?_⟩
 match o, hp with
 | none, hp => exact hp.2
 | some (b, c), hp =>
  obtain ⟨h1, h2, cur, h3, h4⟩ := hp.2
  exact ⟨h1, h2, cur, by rw [h b (.inr ⟨c, rfl⟩), h3], h4⟩
theorem zt4 {w : World} {e : TypeId} {sz n : Nat} {o : Option (Nat × Nat)} {xs : List Value} (h : (own e sz o n xs).prop w) : w.ownsRow 0 e sz (slV o n) n xs := by
 refine ⟨h.1, ?_⟩
 match o, h with
 | none, h => exact .inl ⟨rfl, h.2⟩
 | some (b, c), h =>
  obtain ⟨h1, h2, cur, h3, h4, h5⟩ := h.2
  exact .inr ⟨b, c, cur, rfl, aV _, h3, h1, h2, h4, h5⟩
def Rd (w : World) (a : Option Addr) (xs : List Value) : Prop := xs = [] ∨ ∃ b off, a = some ⟨b, off, none⟩ ∧ ∀ (j : Nat) (u : Value), xs[j]? = some u → w.cell? ⟨b, off + j, none⟩ = some u
theorem zc9 (b off j : Nat) : (⟨b, off, none⟩ : Addr).add j = ⟨b, off + j, none⟩ := by unfold Addr.add; split <;> simp_all
theorem zbm {w : World} {e : TypeId} {sz n b c : Nat} {xs : List Value} (h : (own e sz (some (b, c)) n xs).prop w) : ∀ (j : Nat) (u : Value), xs[j]? = some u → w.cell? ⟨b, j, none⟩ = some u := by
 intro j u hu
 have := (zt4 h).cells (g := b) rfl j u hu
 rwa [zc9, aF] at this
theorem Rd.keep {w : World} {a : Option Addr} {xs : List Value} (h : Rd w0 a xs) (hw : Hp w0 none' m w) : Rd w a xs := by
 rcases h with h | ⟨b, off, h1, h2⟩
 ·exact .inl h
 ·exact .inr ⟨b, off, h1, fun j u hu => hw.old (fun h => h) (h2 j u hu)⟩
theorem Rd.fr {w : World} {a : Option Addr} {xs : List Value} (h : Rd w0 a xs) (hw : Fr none' w0 w) : Rd w a xs := by
 rcases h with h | ⟨b, off, h1, h2⟩
 ·exact .inl h
 ·exact .inr ⟨b, off, h1, fun j u hu => by
   have hv := h2 j u hu
   rw [← hv]
   exact World.cell?_of_block (w := w0) (hw.block b (World.block_lt_of_cell? w0 _ hv) (fun h => h))⟩
def slA : Option (Nat × Nat) → Option Addr
 | none => none
 | some (b, _) => some ⟨b, 0, none⟩
def slC : Option (Nat × Nat) → Nat
 | none => 0
 | some (_, c) => c
theorem zbl {w : World} {e : TypeId} {sz n : Nat} {o : Option (Nat × Nat)} {xs : List Value} (h : (own e sz o n xs).prop w) : Rd w (slA o) xs := by
 match o, h with
 | none, h => exact .inl (bM (by have h1 := h.1; have h2 : n = 0 := h.2; simpa [h2] using h1))
 | some (b, c), h => exact .inr ⟨b, 0, rfl, fun j u hu => by rw [aF]; exact zbm h j u hu⟩
theorem zas {w : World} {e : TypeId} {sz n : Nat} {o : Option (Nat × Nat)} {xs : List Value} (h : (own e sz o n xs).prop w) : slV o n = .slice (slA o) n (slC o) ∧ n ≤ slC o := by
 match o, h with
 | none, h => have h2 : n = 0 := h.2; subst h2; exact ⟨rfl, aX _⟩
 | some (b, c), h => exact ⟨rfl, h.2.1⟩
theorem zki {w w' : World} {e : TypeId} {sz n : Nat} {o o' : Option (Nat × Nat)} {xs : List Value} (hp : (own e sz o' n xs).prop w') (hf : Fr (fun k => ∃ c, o = some (k, c)) w w') (hn : ∀ b c, o' = some (b, c) → w.heap.size ≤ b ∨ ∃ c', o = some (b, c')) : Its (fun k => ∃ c, o = some (k, c)) w [own e sz o' n xs] w' := by
 refine ⟨hf, fun it hm => ?_, .cons (fun _ h => by cases h) .nil⟩
 obtain rfl : it = own e sz o' n xs := by simpa using hm
 refine ⟨hp, zab _ _ _ _ _ _, fun k ⟨c, hk⟩ => ⟨?_, fun hlt => ?_⟩⟩
 ·subst hk
  obtain ⟨-, -, cur, h3, -⟩ := hp.2
  exact (bC.1 h3).1
 ·rcases hn k c hk with h | h
  ·omega
  ·exact h
theorem zkg {F : Nat → Prop} {w w' : World} (h1 : w'.os = w.os) (h2 : w'.tape = w.tape) (h3 : w'.output = w.output) (h4 : w.heap.size ≤ w'.heap.size) (h5 : ∀ k, k < w.heap.size → ¬ F k → w'.heap[k]? = w.heap[k]?) : Fr F w w' := ⟨h1, h2, h3, h4, h5⟩
theorem qlw {t ty' e : TypeId} {i : TypeInfo} {z : Value} (ht : P.underlying t = some (.slice e)) (hi : P.info? e = some i) (hz : i.zero = some z) (hzs : z.cells.size = i.size) (_hsz : 0 < i.size)
  {w : World} {o : Option (Nat × Nat)} {n : Nat} {xs : List Value} (hown : (own e i.size o n xs).prop w)
  {a : Addr} {k c : Nat} {news : List Value} (hl : news.length = k * i.size) (hnews : ∀ (j : Nat) u, news[j]? = some u → w.cell? (a.add j) = some u) (h1 : ∀ u ∈ news, u.oneCell' = true)
  (h63 : n + k ≤ maxLen) (hbytes : (n + k) * i.bytes ≤ 140737488355328) :
  ∃ o' w', (Builtin.append_ #[t, t] ty' #[slV o n, .slice (some a) k c]).run P w = .ok (slV o' (n + k)) w' ∧ Its (fun k => ∃ c, o = some (k, c)) w [own e i.size o' (n + k) (xs ++ news)] w' := by
 have hrow := zt4 hown
 have hlen : (xs ++ news).length = (n + k) * i.size := by rw [aA, hrow.1, hl, iH]
 have grown : ∀ (old : Nat), old < n + k →
   Its (fun k => ∃ c, o = some (k, c)) w [own e i.size (some (w.heap.size, grownCap w (n + k) old e)) (n + k) (xs ++ news)] (w.drew.alloc (.cells (xs.toArray ++ news.toArray ++ Builtin.zeroCells z.cells (grownCap w (n + k) old e - (n + k))) e)) := by
  intro old ho
  have hge := grownCap_ge w (n + k) old e
  refine zki ⟨hlen, hge, grownCap_le_maxLen w (n + k) old e h63, _, heap_alloc_new w.drew _, ?_, ?_⟩ (zkg rfl rfl rfl sQ fun j hj _ => Below.heap_alloc w.drew _ j hj) (fun b c' h => .inl (by cases h; exact aX _))
  ·simp only [jU, bR, size_zeroCells, hzs, hrow.1, hl, ← iH]
   congr 1
   omega
  ·simp only [gC, aH]
   rw [← aH, ← hlen]
   exact fS
 by_cases hk : k = 0
 ·subst hk
  obtain rfl : news = [] := bM (by simpa using hl)
  match o, hown with
  | none, hown =>
   obtain rfl : n = 0 := hown.2
   refine ⟨none, w, ?_, ?_⟩
   ·simp [Builtin.append_, run_underlying ht, sizeOf, typeInfo, hi, Builtin.lenOf, Builtin.firstCells, slV, loadCells, loadCellsFrom]
   ·rw [bA]
    exact zki (o := none) hown (.refl _ _) (fun _ _ h => by cases h)
  | some (b, cap), hown =>
   obtain ⟨h2, h3, cur, h4, h5, h6⟩ := hown.2
   have hr := run_append_room (P := P) w t ty' e i ht hi b n cap cur h4 a 0 c [] sQ hnews h1 h2 (by rw [h5]; simpa using eV _ h2)
   refine ⟨some (b, cap), _, hr, zki ⟨by simpa using hown.1, h2, h3, _, setRow_heap w b cur _ e _ h4, ?_, ?_⟩ (zkg rfl rfl rfl sQ fun j _ hj => setRow_other w b j _ (fun e => hj ⟨cap, by rw [e]⟩)) (fun b' c' h => .inr ⟨c', h⟩)⟩
   ·simp [h5]
   ·rw [fH, bA, bA]
    simp only [h6]
    rw [fK (by simpa using hown.1)]
 match o, hown with
 | none, hown =>
  obtain rfl : n = 0 := hown.2
  obtain rfl : xs = [] := bM (by simpa using hrow.1)
  have hr := run_append_nil (P := P) w t ty' e i z ht hi hz a k c news hl hnews oQ (by simp only [maxLen] at h63; omega) (by have hb := hbytes; simp only [aF] at hb; omega)
  have hgr := grown 0 oQ
  simp only [aF, aI, Array.empty_append] at hgr ⊢
  exact ⟨some (w.heap.size, grownCap w k 0 e), _, hr, hgr⟩
 | some (b, cap), hown =>
  obtain ⟨h2, h3, cur, h4, h5, h6⟩ := hown.2
  by_cases hroom : n + k ≤ cap
  ·have hfit : n * i.size + news.length ≤ cur.size := by rw [hl, h5, ← iH]; exact eV _ hroom
   have hr := run_append_room (P := P) w t ty' e i ht hi b n cap cur h4 a k c news hl hnews h1 hroom hfit
   refine ⟨some (b, cap), _, hr, zki ⟨hlen, hroom, h3, _, setRow_heap w b cur _ e _ h4, ?_, ?_⟩ (zkg rfl rfl rfl sQ fun j _ hj => setRow_other w b j _ (fun e => hj ⟨cap, by rw [e]⟩)) (fun b' c' h => .inr ⟨c', h⟩)⟩
   ·simp only [bR, aA, aO, aU, fL]
    omega
   ·rw [h6, ← hlen]
    exact fS
  ·have hr := run_append_grow (P := P) w t ty' e i z ht hi hz ⟨b, 0, none⟩ n cap xs hrow.1 (hrow.cells (g := b) rfl) a k c news hl hnews oQ (by simp only [maxLen] at h63; omega) (growslice_fits oQ hbytes)
   exact ⟨some (w.heap.size, grownCap w (n + k) cap e), _, hr, grown cap oQ⟩
def qch (P : Program) (e : TypeId) : Option (Nat × Nat × Nat) := match P.info? e with | some ⟨_, _, sz, bt, _, _, _, some z, _, _⟩ => some (sz, bt, z.cells.size) | _ => none
theorem zmf {e : TypeId} {s b k : Nat} (h : qch P e = some (s, b, k)) : ∃ i z, P.info? e = some i ∧ i.size = s ∧ i.bytes = b ∧ i.zero = some z ∧ z.cells.size = k := by
 unfold qch at h
 split at h
 ·rename_i hi
  simp only [cO, gN] at h
  obtain ⟨h1, h2, h3⟩ := h
  exact ⟨_, _, hi, h1, h2, rfl, h3⟩
 ·cases h
theorem zdh {T T' e : TypeId} {x y : Operand} {o : Option (Nat × Nat)} {a : Addr} {n k c sz b : Nat} {xs news : List Value} (hok : ze5 N l (.call ⟨.builtin .append, #[x, y], #[T, T]⟩) d = true) (hx : evO l x = some (slV o n)) (hy : evO l y = some (.slice (some a) k c))
  (hT : zks P T = some e) (hi : qch P e = some (sz, b, sz)) (hsz : Nat.ble 1 sz = true) (hl : news.length = k * sz) (h1 : zbx news = true) (hn : (n + k) * (b + 1) ≤ 140737488355328)
  (hnews : ∀ w, Hp w0 F (own e sz o n xs :: m) w → ∀ (j : Nat) (v : Value), news[j]? = some v → w.cell? (a.add j) = some v) :
  HO P ⟨some d, .call ⟨.builtin .append, #[x, y], #[T, T]⟩, T', pos, after, g⟩ Q N l (Hp w0 F (own e sz o n xs :: m)) (α := Option (Nat × Nat)) (fun o' => (d, slV o' (n + k)) :: l) (fun o' => Hp w0 F (own e sz o' (n + k) (xs ++ news) :: m)) :=
 zh5 (val := fun o' => slV o' (n + k)) hok (fun w hw => by
  obtain ⟨i, z, h1', h2, h3, h4, h5⟩ := zmf hi
  subst h2
  subst h3
  have hle : (n + k) * i.bytes + (n + k) ≤ 140737488355328 := by rwa [fJ, bK] at hn
  obtain ⟨o', w', hr, hits⟩ := qlw (P := P) (ty' := T') (c := c) (zbk hT) h1' h4 h5 (bN hsz) (hw.item (own e i.size o n xs) sQ).1 hl (hnews w hw) (za5.1 h1) (by simp only [maxLen]; omega) oQ
  refine ⟨o', w', ?_, Hp.call (m := [own e i.size o n xs]) hw hits (fun k' _ hk => ⟨own e i.size o n xs, by simp, hk⟩)⟩
  simp only [execOp, resolve, invoke, builtin]
  simp [zau hx, zau hy, hr])
def zil (sz : Nat) (l : zaq) : List (Nat × Operand) → Option (List (Nat × Nat × Value))
 | [] => some []
 | (i, x) :: r => match evO l x, zil sz l r with
  | some v, some L => some ((i * sz, sz, v) :: L)
  | _, _ => none
theorem zko {sz : Nat} : ∀ {ps : List (Nat × Operand)} {L : List (Nat × Nat × Value)}, zil sz l ps = some L → ps.length = L.length ∧ ∀ (j : Nat) p q, (ps.map fun p => (p.1, ev l p.2))[j]? = some p → L[j]? = some q → (p.1 * sz, sz) = (q.1, q.2.1) ∧ p.2 = q.2.2
 | [], L, h => by simp only [zil, cO] at h; subst h; simp
 | (i, x) :: r, L, h => by
  simp only [zil] at h
  split at h
  ·rename_i v L' h2 h3
   simp only [cO] at h
   subst h
   obtain ⟨a, b⟩ := zko h3
   refine ⟨by simp [a], fun j p q hp hq => ?_⟩
   cases j with
   | zero =>
    simp only [bD, List.getElem?_cons_zero, cO] at hp hq
    subst hp; subst hq
    exact ⟨rfl, zau h2⟩
   | succ j => exact b j p q (by simpa using hp) (by simpa using hq)
  ·cases h
theorem zk4 {n : Nat} : ∀ (L : List (Nat × Nat × Value)) (z : List Value), zy1 n L → z.length = n → (zen z L).length = n
 | [], _, _, h => h
 | p :: r, z, hk, h => by
  obtain ⟨k1, k2⟩ := hk p sQ
  exact zk4 r _ (fun q hq => hk q (by simp [hq])) (by rw [zpn _ _ _ (by simp [k1]; omega)]; exact h)
def zcw (z : Value) (n : Nat) : List Value := (List.range n).map fun i => z.cells[i % z.cells.size]!
theorem Hp.newOwn {w : World} {e : TypeId} {sz n c : Nat} {xs : List Value} {ob : Obj} (hw : Hp w0 F m w) (h : (own e sz (some (w.heap.size, c)) n xs).prop (w.alloc ob)) : Hp w0 F (own e sz (some (w.heap.size, c)) n xs :: m) (w.alloc ob) := by
 have hits : Its none' w [own e sz (some (w.heap.size, c)) n xs] (w.alloc ob) := by
  refine ⟨⟨rfl, rfl, rfl, by simp, fun k hk _ => Below.heap_alloc w _ k hk⟩, fun it hm => ?_, .cons (fun _ h => by cases h) .nil⟩
  obtain rfl : it = own e sz (some (w.heap.size, c)) n xs := by simpa using hm
  refine ⟨h, zab _ _ _ _ _ _, fun k ⟨c', hk⟩ => ?_⟩
  simp only [cO, gN] at hk
  obtain ⟨rfl, -⟩ := hk
  exact ⟨by simp, fun h => absurd h (Nat.lt_irrefl _)⟩
 exact Hp.call0 hw hits
theorem zba {T e : TypeId} {len sz b : Nat} {ps : List (Nat × Operand)} {L : List (Nat × Nat × Value)} {z : Value} (hok : ze5 N l (.buildSlice T len ps.toArray) d = true) (hT : zks P T = some e) (hi : zo0 P e = some (sz, b, z)) (hp : zil sz l ps = some L)
  (hlen : (Nat.ble (len * sz) 1000000 && Nat.ble 1 (len * sz)) = true) (hkb : zdi (len * sz) L = true) :
  HO P ⟨some d, .buildSlice T len ps.toArray, ty, pos, after, g⟩ Q N l (Hp w0 F m) (α := { b : Nat // w0.heap.size ≤ b }) (fun c => (d, .slice (some ⟨c.1, 0, none⟩) len len) :: l) (fun c => Hp w0 F (own e sz (some (c.1, len)) len (zen (zcw z (len * sz)) L) :: m)) :=
 zh5 (val := fun c : { b : Nat // w0.heap.size ≤ b } => .slice (some ⟨c.1, 0, none⟩) len len) hok (fun w hw => by
  obtain ⟨i, h1, h2, h3, h4⟩ := zhs hi
  subst h2
  simp only [bH] at hlen
  have hle := bN hlen.1
  have hge := bN hlen.2
  have hk := zgb hkb
  obtain ⟨a1, a2⟩ := zko hp
  have hzl : (zcw z (len * i.size)).length = len * i.size := by simp [zcw]
  have hbl := zk4 L _ hk hzl
  have hfill := zth (place := fun j => some (j * i.size, i.size)) L (ps.map fun p => (p.1, ev l p.2)) (zcw z (len * i.size)).toArray (by simpa using a1) (fun j p q hp hq => by
   obtain ⟨x1, x2⟩ := a2 j p q hp hq
   exact ⟨by rw [x1], x2⟩) (by simpa [hzl] using hk)
  have hps : (ps.toArray.map fun (x : Nat × Operand) => match x with | (i, x) => (i, ev l x)) = (ps.map fun p => (p.1, ev l p.2)).toArray := by simp
  have hz : ((Array.range (len * i.size)).map fun x => z.cells[x % z.cells.size]!) = (zcw z (len * i.size)).toArray := by
   apply Array.ext'
   simp [zcw, Array.toList_range]
  have hne : ¬ (len * i.size = 0) := oQ
  have hbig : ¬ (len * i.size > 2 ^ 24) := oQ
  have hlm : len ≤ maxLen := by
   have h5 : len ≤ len * i.size := Nat.le_mul_of_pos_right _ (Nat.pos_of_ne_zero fun h => by rw [h] at hge; simp at hge)
   unfold maxLen; omega
  have htk : (zen (zcw z (len * i.size)) L).toArray.toList.take (len * i.size) = zen (zcw z (len * i.size)) L := cA (iM hbl)
  have hnew : (own e i.size (some (w.heap.size, len)) len (zen (zcw z (len * i.size)) L)).prop (w.alloc (.cells (zen (zcw z (len * i.size)) L).toArray e)) :=
   ⟨hbl, aX _, hlm, _, heap_alloc_new w _, by simp [hbl], htk⟩
  refine ⟨⟨w.heap.size, hw.fr.size⟩, w.alloc (.cells (zen (zcw z (len * i.size)) L).toArray e), ?_, hw.newOwn hnew⟩
  have hbig' : ¬ (16777216 < len * i.size) := oQ
  simp only [execOp, hps, Instr.buildSlice, Sem.run_bind, run_underlying (zbk hT) w, Result.andThen_ok, sizeOf, typeInfo, zeroValue]
  simp [newRow, h1, h4, hz, hfill, hbig', hne])
theorem qbk {T e : TypeId} {n sz : Nat} {z : Array Value} {ps : List (Nat × Operand)} {L : List (Nat × Nat × Value)} (hT : P.underlying T = some (.array n e)) (he : zc3 P e = some sz) (hz : (P.info? T).bind (·.zero) = some (.agg z)) (hp : zil sz l ps = some L) (hkb : zdi z.size L = true) :
  OV P (.build T ps.toArray) ty l H (.agg (zen z.toList L).toArray) := ov fun _ _ _ w _ => by
 obtain ⟨q, hq, hqs⟩ := zbp he
 obtain ⟨a1, a2⟩ := zko hp
 have hzr : (zeroValue T).run P w = .ok (.agg z) w := by
  cases hi : P.info? T with
  | none => simp [hi] at hz
  | some i =>
   have hz' : i.zero = some (.agg z) := by simpa [hi] using hz
   simp [zeroValue, typeInfo, hi, hz']
 have hfill := zth (place := fun j => some (j * sz, sz)) L (ps.map fun p => (p.1, ev l p.2)) z (by simpa using a1) (fun j p q hp hq => by
  obtain ⟨x1, x2⟩ := a2 j p q hp hq
  exact ⟨by rw [x1], x2⟩) (zgb hkb)
 have hps : (ps.toArray.map fun (x : Nat × Operand) => match x with | (i, x) => (i, ev l x)) = (ps.map fun p => (p.1, ev l p.2)).toArray := by simp
 have hsz : (sizeOf e).run P w = .ok sz w := by simp [sizeOf, typeInfo, hq, hqs]
 simp only [execOp, hps, Instr.build, Sem.run_bind, hzr, Result.andThen_ok, run_underlying hT w, Value.cells, hsz, hfill]
 rfl
/-! ### functions that the model answers itself -/
theorem qrv {f : FuncId} {fn : Func} {E : Array Value → Sem Value} {xs : List Operand} {tys : Array TypeId} {vs : List Value} {v : Value} (hf : P.funcs[f]? = some fn) (hname : (fn.name == "runtime.NumGoroutine") = false) (hb : fn.body.isNone = true) (hn : Extern.findNext fn = none) (he : Extern.find fn = some E)
  (hx : evs l xs = some vs) (hr : ∀ w, (E vs.toArray).run P w = .ok v w) : OV P (.call ⟨.value (.func f), xs.toArray, tys⟩) ty l H v := ov fun _ _ _ w _ => by
 simp only [execOp, resolve, Deferred.ofValue, ev, fF, zhz hx]
 simp [invoke, run_callFunc_extern hf hname hb hn he, hr w]
variable {P : Program} {Q : Exit → Act → World → Prop} {N : Fm} {l : zaq} {H : World → Prop} {ops : Array Oper} {rest : List Oper} {w0 : World} {F : Nat → Prop} {m : List Item} {ty : TypeId} {pos : String} {after : Array Edge} {g : Option (Nat × Bool)} {d : Nat} {S : World → Prop} {t : Nat}
/-! ### instances -/
class NatOf (a : Int) (x : outParam Nat) : Prop where eq : a = (x : Int)
instance natCast (x : Nat) : NatOf (x : Int) x := ⟨rfl⟩
instance natLit (n : Nat) : NatOf (no_index (@OfNat.ofNat Int n _)) (@OfNat.ofNat Nat n _) := ⟨rfl⟩
class Lim (k : IntKind) (L : outParam Nat) : Prop where wrap : ∀ n : Nat, n < L → k.wrap n = n
instance : Lim .i64 9223372036854775808 := ⟨fun n h => by simp [IntKind.wrap, IntKind.bits, IntKind.signed]; omega⟩
instance : Lim .i32 2147483648 := ⟨fun n h => by simp [IntKind.wrap, IntKind.bits, IntKind.signed]; omega⟩
instance : Lim .u64 18446744073709551616 := ⟨fun n h => by simp [IntKind.wrap, IntKind.bits, IntKind.signed]; omega⟩
instance : Lim .u32 4294967296 := ⟨fun n h => by simp [IntKind.wrap, IntKind.bits, IntKind.signed]; omega⟩
instance : Lim .u16 65536 := ⟨fun n h => by simp [IntKind.wrap, IntKind.bits, IntKind.signed]; omega⟩
instance : Lim .u8 256 := ⟨fun n h => by simp [IntKind.wrap, IntKind.bits, IntKind.signed]; omega⟩
class Deci (b : Bool) (p : outParam Prop) : Prop where iff : b = true ↔ p
instance {p : Prop} {_ : Decidable p} : Deci (decide p) p := ⟨by simp⟩
instance {α : Type} [BEq α] [LawfulBEq α] (a b : α) : Deci (a == b) (a = b) := ⟨by simp⟩
instance {α : Type} [BEq α] [LawfulBEq α] (a b : α) : Deci (a != b) (a ≠ b) := ⟨by simp⟩
instance {b : Bool} {p : Prop} [h : Deci b p] : Deci (!b) (¬ p) := ⟨by rw [← h.iff]; simp⟩
instance (a b : ByteArray) : Deci (seq a b) (a = b) := ⟨zug⟩
instance : Deci true True := ⟨by simp⟩
instance : Deci false False := ⟨by simp⟩
instance (priority := low) (b : Bool) : Deci b (b = true) := ⟨.rfl⟩
class DeciN (b : Bool) (p : outParam Prop) : Prop where iff : b = true ↔ p
instance {p : Prop} {_ : Decidable p} : DeciN (decide p) p := ⟨by simp⟩
instance {α : Type} [BEq α] [LawfulBEq α] (a b : α) : DeciN (a == b) (a = b) := ⟨by simp⟩
instance {α : Type} [BEq α] [LawfulBEq α] (a b : α) : DeciN (a != b) (a ≠ b) := ⟨by simp⟩
instance {b : Bool} {p : Prop} [h : Deci b p] : DeciN (!b) (¬ p) := ⟨by rw [← h.iff]; simp⟩
instance (a b : ByteArray) : DeciN (seq a b) (a = b) := ⟨zug⟩
theorem DeciN.deci {b : Bool} {p : Prop} (h : DeciN b p) : Deci b p := ⟨h.iff⟩
theorem Deci.yes {b : Bool} {p : Prop} [h : Deci b p] (hp : p) : b = true := h.iff.2 hp
theorem Deci.no {b : Bool} {p : Prop} [h : Deci b p] (hp : ¬ p) : b = false := by
 cases b with
 | false => rfl
 | true => exact absurd (h.iff.1 rfl) hp
/-! ### operations on two values -/
class BinV (op : BinOp) (u v : Value) (r : outParam Value) (C : outParam Prop) : Prop where
 run : C → ∀ (P : Program) (xt : TypeId) (x y : Operand) (w : World), (do eqGuard op xt x y u v; binOp op xt u v : Sem Value).run P w = .ok r w
theorem zzo {op : BinOp} {x y : Operand} {u v r : Value} {C : Prop} {T U : TypeId} [h : BinV op u v r C] (hx : evO l x = some u) (hy : evO l y = some v) (hc : C) : OV P (.binOp op T x y U) ty l H r := zfm hx hy fun w => h.run hc P T x y w
theorem qbj {op : BinOp} {x y : Operand} {u v r : Value} {T U : TypeId} [h : BinV op u v r True] (hx : evO l x = some u) (hy : evO l y = some v) : OV P (.binOp op T x y U) ty l H r := zzo hx hy trivial
theorem ze4 {k : IntKind} {a b : Int} (w : World) (h : a = b) : (.ok (.int k a) w : Result Value) = .ok (.int k b) w := by rw [h]
section
variable {k : IntKind} {a b : Int} {x y L : Nat} [ha : NatOf a x] [hb : NatOf b y] [hL : Lim k L]
include ha hb hL
instance : BinV .add (.int k a) (.int k b) (.int k (x + y : Nat)) (x + y < L) := ⟨fun h P xt o o' w => by
 obtain rfl := ha.eq; obtain rfl := hb.eq
 show (if k ≠ k then _ else Op.intArith .add k _ _).run P w = _
 rw [if_neg sQ]
 exact ze4 w (by rw [← jD]; exact hL.wrap _ h)⟩
instance : BinV .sub (.int k a) (.int k b) (.int k (x - y : Nat)) (y ≤ x ∧ x - y < L) := ⟨fun h P xt o o' w => by
 obtain rfl := ha.eq; obtain rfl := hb.eq
 show (if k ≠ k then _ else Op.intArith .sub k _ _).run P w = _
 rw [if_neg sQ]
 exact ze4 w (by rw [← Int.natCast_sub h.1]; exact hL.wrap _ h.2)⟩
instance : BinV .mul (.int k a) (.int k b) (.int k (x * y : Nat)) (x * y < L) := ⟨fun h P xt o o' w => by
 obtain rfl := ha.eq; obtain rfl := hb.eq
 show (if k ≠ k then _ else Op.intArith .mul k _ _).run P w = _
 rw [if_neg sQ]
 exact ze4 w (by rw [← jE]; exact hL.wrap _ h)⟩
instance : BinV .quo (.int k a) (.int k b) (.int k (x / y : Nat)) (0 < y ∧ x < L) := ⟨fun h P xt o o' w => by
 obtain rfl := ha.eq; obtain rfl := hb.eq
 show (if k ≠ k then _ else Op.intDiv .quo k _ _).run P w = _
 rw [if_neg sQ]
 have h0 : ¬ ((y : Int) = 0) := oQ
 simp only [Op.intDiv, h0, if_false]
 exact ze4 w (hL.wrap _ (cI (dK x y) h.2))⟩
instance : BinV .rem (.int k a) (.int k b) (.int k (x % y : Nat)) (0 < y) := ⟨fun h P xt o o' w => by
 obtain rfl := ha.eq; obtain rfl := hb.eq
 show (if k ≠ k then _ else Op.intDiv .rem k _ _).run P w = _
 rw [if_neg sQ]
 have h0 : ¬ ((y : Int) = 0) := oQ
 simp only [Op.intDiv, h0, if_false]
 exact ze4 w rfl⟩
end
/-! general integers -/
section
variable {k : IntKind} {a b : Int}
instance (priority := low) : BinV .add (.int .i64 a) (.int .i64 b) (.int .i64 (a + b)) (-9223372036854775808 ≤ a + b ∧ a + b < 9223372036854775808) := ⟨fun h _ _ _ _ w => ze4 w (zvo _ h.1 h.2)⟩
instance (priority := low) : BinV .sub (.int .i64 a) (.int .i64 b) (.int .i64 (a - b)) (-9223372036854775808 ≤ a - b ∧ a - b < 9223372036854775808) := ⟨fun h _ _ _ _ w => ze4 w (zvo _ h.1 h.2)⟩
instance : BinV .lss (.int k a) (.int k b) (.bool (decide (a < b))) True := ⟨fun _ P xt o o' w => by
 show (if k ≠ k then _ else Op.intCmp .lss _ _).run P w = _
 rw [if_neg sQ]; rfl⟩
instance : BinV .leq (.int k a) (.int k b) (.bool (decide (a ≤ b))) True := ⟨fun _ P xt o o' w => by
 show (if k ≠ k then _ else Op.intCmp .leq _ _).run P w = _
 rw [if_neg sQ]; rfl⟩
instance : BinV .gtr (.int k a) (.int k b) (.bool (decide (a > b))) True := ⟨fun _ P xt o o' w => by
 show (if k ≠ k then _ else Op.intCmp .gtr _ _).run P w = _
 rw [if_neg sQ]; rfl⟩
instance : BinV .geq (.int k a) (.int k b) (.bool (decide (a ≥ b))) True := ⟨fun _ P xt o o' w => by
 show (if k ≠ k then _ else Op.intCmp .geq _ _).run P w = _
 rw [if_neg sQ]; rfl⟩
instance : BinV .eql (.int k a) (.int k b) (.bool (a == b)) True := ⟨fun _ P xt o o' w => by
 show (if k ≠ k then _ else Op.intCmp .eql _ _).run P w = _
 rw [if_neg sQ]; rfl⟩
instance : BinV .neq (.int k a) (.int k b) (.bool (a != b)) True := ⟨fun _ P xt o o' w => by
 show (if k ≠ k then _ else Op.intCmp .neq _ _).run P w = _
 rw [if_neg sQ]; rfl⟩
end
/-! bits of unsigned kinds -/
class Uns (k : IntKind) (L n : outParam Nat) : Prop where
 bits : k.bits = n
 lim : L = 2 ^ n
 wrap : ∀ m : Nat, k.wrap (m : Int) = ((m % L : Nat) : Int)
instance : Uns .u8 256 8 := ⟨rfl, rfl, zic⟩
instance : Uns .u16 65536 16 := ⟨rfl, rfl, fun n => by simp [IntKind.wrap, IntKind.bits, IntKind.signed]⟩
instance : Uns .u32 4294967296 32 := ⟨rfl, rfl, zg9⟩
instance : Uns .u64 18446744073709551616 64 := ⟨rfl, rfl, zdf⟩
section
variable {k : IntKind} {a b : Int} {x y L n : Nat} [ha : NatOf a x] [hb : NatOf b y] [hU : Uns k L n]
include ha hb hU
instance : BinV .and (.int k a) (.int k b) (.int k (x &&& y : Nat)) (x < L) := ⟨fun h P xt o o' w => by
 obtain rfl := ha.eq; obtain rfl := hb.eq; obtain rfl := hU.bits; obtain rfl := hU.lim
 show (if k ≠ k then _ else Op.intBits .and k _ _).run P w = _
 rw [if_neg sQ]
 refine ze4 w ?_
 rw [zbo, zbo, hU.wrap, fE, bS, bS]
 congr 1
 have h1 : x % 2 ^ k.bits = x := aY h
 have h2 : (x &&& y % 2 ^ k.bits) = (x &&& y) := by
  have := Nat.and_mod_two_pow (a := x) (b := y) (n := k.bits)
  rw [h1] at this
  rw [← this]
  exact aY (cI fW h)
 rw [h1, h2]
 exact aY (cI fW h)⟩
instance : BinV .or (.int k a) (.int k b) (.int k (x ||| y : Nat)) (x < L ∧ y < L) := ⟨fun h P xt o o' w => by
 obtain rfl := ha.eq; obtain rfl := hb.eq; obtain rfl := hU.bits; obtain rfl := hU.lim
 show (if k ≠ k then _ else Op.intBits .or k _ _).run P w = _
 rw [if_neg sQ]
 refine ze4 w ?_
 rw [zbo, zbo, hU.wrap, kN, bS, bS]
 congr 1
 rw [aY h.1, aY h.2]
 exact aY (kA h.1 h.2)⟩
instance : BinV .xor (.int k a) (.int k b) (.int k (x ^^^ y : Nat)) (x < L ∧ y < L) := ⟨fun h P xt o o' w => by
 obtain rfl := ha.eq; obtain rfl := hb.eq; obtain rfl := hU.bits; obtain rfl := hU.lim
 show (if k ≠ k then _ else Op.intBits .xor k _ _).run P w = _
 rw [if_neg sQ]
 refine ze4 w ?_
 rw [zbo, zbo, hU.wrap, kC, bS, bS]
 congr 1
 rw [aY h.1, aY h.2]
 exact aY (jS h.1 h.2)⟩
instance {k' : IntKind} : BinV .shr (.int k a) (.int k' b) (.int k (x / 2 ^ y : Nat)) (y < n) := ⟨fun h P xt o o' w => by
 obtain rfl := ha.eq; obtain rfl := hb.eq; obtain rfl := hU.bits
 show ((binOp .shr xt (.int k x) (.int k' y)).run P w) = _
 have h0 : ¬ ((y : Int) < 0) := oQ
 simp only [binOp, Op.shift, h0, if_false, bT]
 refine ze4 w ?_
 have e : min y k.bits = y := oQ
 have e2 : (2 : Int) ^ y = ((2 ^ y : Nat) : Int) := by simp
 rw [e, e2, gU _ (jO _)]
 rfl⟩
instance {k' : IntKind} : BinV .shl (.int k a) (.int k' b) (.int k (x * 2 ^ y % L : Nat)) (y < n) := ⟨fun h P xt o o' w => by
 obtain rfl := ha.eq; obtain rfl := hb.eq; obtain rfl := hU.bits
 show ((binOp .shl xt (.int k x) (.int k' y)).run P w) = _
 have h0 : ¬ ((y : Int) < 0) := oQ
 simp only [binOp, Op.shift, h0, if_false, bT]
 refine ze4 w ?_
 have e : min y k.bits = y := oQ
 have e2 : ((x : Int) * 2 ^ y) = ((x * 2 ^ y : Nat) : Int) := by simp
 rw [e, e2, hU.wrap]⟩
end
/-! bools, strings, nil -/
theorem qa2 (a b : ByteArray) : seq a b = (a.toList == b.toList) := by rw [← qg7, ← zoq]
section
variable {a b : Bool} {s u : ByteArray}
instance : BinV .eql (.string s) (.string u) (.bool (seq s u)) True := ⟨fun _ _ _ _ _ _ => by rw [qa2]; rfl⟩
instance : BinV .neq (.string s) (.string u) (.bool (!seq s u)) True := ⟨fun _ _ _ _ _ _ => by rw [qa2]; rfl⟩
instance : BinV .lss (.string s) (.string u) (.bool (Op.bytesLess s.toList u.toList)) True := ⟨fun _ _ _ _ _ _ => rfl⟩
instance : BinV .gtr (.string s) (.string u) (.bool (!(Op.bytesLess s.toList u.toList || seq s u))) True := ⟨fun _ _ _ _ _ _ => by rw [qa2]; rfl⟩
instance : BinV .leq (.string s) (.string u) (.bool (Op.bytesLess s.toList u.toList || seq s u)) True := ⟨fun _ _ _ _ _ _ => by rw [qa2]; rfl⟩
instance : BinV .geq (.string s) (.string u) (.bool (!(Op.bytesLess s.toList u.toList))) True := ⟨fun _ _ _ _ _ _ => rfl⟩
instance : BinV .add (.string s) (.string u) (.string (s ++ u)) (s.size + u.size < 9223372036854775808) := ⟨fun h P xt o o' w => by
 have h' : ¬ (((s.size + u.size : Nat) : Int) > IntKind.i64.max) := by simp [IntKind.max, IntKind.bits, IntKind.signed]; omega
 show ((binOp .add xt (.string s) (.string u)).run P w) = _
 simp only [binOp, Op.stringOp, if_neg h']
 rfl⟩
end
theorem zl0 {x y : Operand} {a b : Bool} {T U : TypeId} (hx : evO l x = some (.bool a)) (hy : evO l y = some (.bool b)) (hT : P.underlying T = some .bool) : OV P (.binOp .eql T x y U) ty l H (.bool (a == b)) := zfm hx hy fun w => by
 show ((Op.equal T (.bool a) (.bool b) >>= fun r => (pure (Value.bool r) : Sem Value)).run P w) = _
 rw [Sem.run_bind, run_equal_bool w T a b hT]; rfl
/-! ### one operation -/
def okL (ops : Array Oper) (N : Fm) (l : zaq) (g : Option (Nat × Bool)) (op : Op) (d : Nat) : Bool := okG ops l g && ze5 N l op d
theorem l_w {op : Op} {v : Value} (hok : okL ops N l g op d = true) (hv : OV P op ty l H v) (k : HL P ops Q N rest ((d, v) :: l) H) : HL P ops Q N (⟨some d, op, ty, pos, after, g⟩ :: rest) l H := by
 simp only [okL, bH] at hok
 exact l_v hok.1 hok.2 hv k
def okP (ops : Array Oper) (N : Fm) (l : zaq) (g : Nat × Bool) (d : Nat) : Bool := Nat.ble (d + 1) N.n && match nth ops.toList g.1 with
 | some o => (match o.dst with | some t => (match get l t with | some (.bool c) => !(c == g.2) | some (.tuple _) => true | _ => false) | none => false)
 | none => false
theorem qqr {op : Op} {g : Nat × Bool} (hok : okP ops N l g d = true) (k : HL P ops Q N rest ((d, undef) :: l) H) : HL P ops Q N (⟨some d, op, ty, pos, after, some g⟩ :: rest) l H := by
 simp only [okP, bH] at hok
 obtain ⟨h1, h2⟩ := hok
 split at h2
 ·rename_i o ho
  have ho := zek ho
  split at h2
  ·rename_i t ht
   split at h2
   ·rename_i c hc
    exact qpb h1 (by simp only [zmw, ho, gF, ht, hc]; revert h2; cases c <;> cases g.2 <;> simp) k
   ·rename_i vs hc
    exact qmi h1 (by simp only [qpn, ho, gF, ht, hc]) k
   ·cases h2
  ·cases h2
 ·cases h2
/-! values by instances -/
theorem qbr {c x y : Operand} {v : Value} {b : Bool} {p : Prop} [h : Deci b p] (hc : evO l c = some (.bool b)) (hx : evO l x = some v) (hp : p) : OV P (.pick c x y) ty l H v := qnr hc (h.yes hp) hx
theorem qbq {c x y : Operand} {v : Value} {b : Bool} {p : Prop} [h : Deci b p] (hc : evO l c = some (.bool b)) (hy : evO l y = some v) (hp : ¬ p) : OV P (.pick c x y) ty l H v := qnq hc (h.no hp) hy
theorem qbp {x : Operand} {b : Bool} {T : TypeId} (hx : evO l x = some (.bool b)) : OV P (.unOp .not T x) ty l H (.bool (!b)) := ov fun _ _ _ w _ => by simp only [execOp, zau hx]; rfl
theorem qbm {T : TypeId} {x y : Operand} {b i n sz : Nat} {k : IntKind} {a : Int} {j : Nat} [h : NatOf a j] (hx : evO l x = some (.pointer (some ⟨b, i, none⟩))) (hy : evO l y = some (.int k a)) (hT : qee P T = some (n, sz)) (h1 : j < n) : OV P (.indexAddr T x y) ty l H (.pointer (some ⟨b, i + j * sz, none⟩)) := by
 obtain rfl := h.eq; exact qlf hx hy hT h1
theorem zl1 {T : TypeId} {x y : Operand} {b i n : Nat} {k : IntKind} {a : Int} {j : Nat} [h : NatOf a j] (hx : evO l x = some (.pointer (some ⟨b, i, none⟩))) (hy : evO l y = some (.int k a)) (hT : qee P T = some (n, 1)) (h1 : j < n) : OV P (.indexAddr T x y) ty l H (.pointer (some ⟨b, i + j, none⟩)) := by
 obtain rfl := h.eq; exact qhr hx hy hT h1
theorem zj5 {T : TypeId} {x y : Operand} {b i n c : Nat} {k : IntKind} {a : Int} {j : Nat} [h : NatOf a j] (hx : evO l x = some (.slice (some ⟨b, i, none⟩) n c)) (hy : evO l y = some (.int k a)) (hT : qha P T = some 1) (h1 : j < n) : OV P (.indexAddr T x y) ty l H (.pointer (some ⟨b, i + j, none⟩)) := by
 obtain rfl := h.eq; exact qnj hx hy hT h1
theorem qbn {T : TypeId} {x y : Operand} {b i n c sz : Nat} {k : IntKind} {a : Int} {j : Nat} [h : NatOf a j] (hx : evO l x = some (.slice (some ⟨b, i, none⟩) n c)) (hy : evO l y = some (.int k a)) (hT : qha P T = some sz) (h1 : j < n) : OV P (.indexAddr T x y) ty l H (.pointer (some ⟨b, i + j * sz, none⟩)) := by
 obtain rfl := h.eq; exact qlg hx hy hT h1
theorem qbu {T : TypeId} {x y : Operand} {s : ByteArray} {k : IntKind} {a : Int} {i : Nat} [h : NatOf a i] (hx : evO l x = some (.string s)) (hy : evO l y = some (.int k a)) (hT : P.underlying T = some .string) (hi : i < s.size) : OV P (.index T x y) ty l H (.int .u8 (s[i].toNat : Nat)) := by
 obtain rfl := h.eq; exact qnv hx hy hT hi
theorem qbs {T : TypeId} {x y : Operand} {s : ByteArray} {k : IntKind} {a : Int} {i : Nat} [h : NatOf a i] (hx : evO l x = some (.string s)) (hy : evO l y = some (.int k a)) (hT : P.underlying T = some .string) (hi : i ≤ s.size) : OV P (.slice T x (some y) none none) ty l H (.string (s.extract i s.size)) := by
 obtain rfl := h.eq; exact qkd hx hy hT hi
theorem qbt {T : TypeId} {x y : Operand} {s : ByteArray} {k : IntKind} {a : Int} {i : Nat} [h : NatOf a i] (hx : evO l x = some (.string s)) (hy : evO l y = some (.int k a)) (hT : P.underlying T = some .string) (hi : i ≤ s.size) : OV P (.slice T x none (some y) none) ty l H (.string (s.extract 0 i)) := by
 obtain rfl := h.eq; exact qke hx hy hT hi
theorem zl2 {T : TypeId} {x y z : Operand} {s : ByteArray} {k k' : IntKind} {a b : Int} {i j : Nat} [h : NatOf a i] [h' : NatOf b j] (hx : evO l x = some (.string s)) (hy : evO l y = some (.int k a)) (hz : evO l z = some (.int k' b)) (hT : P.underlying T = some .string) (hi : i ≤ j ∧ j ≤ s.size) : OV P (.slice T x (some y) (some z) none) ty l H (.string (s.extract i j)) := by
 obtain rfl := h.eq; obtain rfl := h'.eq; exact qnu hx hy hz hT hi.1 hi.2
theorem qbo {T e : TypeId} {x y : Operand} {p : Option Addr} {n c sz : Nat} {k : IntKind} {a : Int} {i : Nat} [h : NatOf a i] (hx : evO l x = some (.slice p n c)) (hy : evO l y = some (.int k a)) (hT : zks P T = some e) (he : zc3 P e = some sz) (hi : i ≤ n) : OV P (.slice T x (some y) none none) ty l H (.slice (zrc p (decide (c = i)) (i * sz)) (n - i) (c - i)) := by
 obtain rfl := h.eq; exact qqg hx hy hT he hi
/-! ### guards and tests -/
section
variable {c : Operand} {x y : Code} {b : Bool} {p : Prop} [h : Deci b p]
include h
theorem t_T (hc : evO l c = some (.bool b)) (hk : zep l c = true) (hp : p) (k : HT P x Q N l H) : HT P (.cond c x y) Q N l H := qp5 hk hc (h.yes hp) k
theorem t_F (hc : evO l c = some (.bool b)) (hk : zep l c = true) (hp : ¬ p) (k : HT P y Q N l H) : HT P (.cond c x y) Q N l H := qm9 hk hc (h.no hp) k
theorem qp3 (hc : evO l c = some (.bool b)) (hk : zep l c = true) (ht : p → HT P x Q N l H) (hf : ¬ p → HT P y Q N l H) : HT P (.cond c x y) Q N l H := znp b hk hc (fun e => ht (h.iff.1 e)) (fun e => hf fun hp => by rw [h.yes hp] at e; cases e)
variable {op : Op} {dst : Option Nat} {g : Nat × Bool}
end
section
variable {b : Bool} {p : Prop} [h : DeciN b p] {op : Op} {dst : Option Nat} {g : Nat × Bool}
include h
theorem l_T (hd : (nth ops.toList g.1).bind (·.dst) = some d) (hg : get l d = some (.bool b)) (hp : p) (k : HL P ops Q N (⟨dst, op, ty, pos, after, some g⟩ :: rest) ((d, .bool true) :: l) H) : HL P ops Q N (⟨dst, op, ty, pos, after, some g⟩ :: rest) l H := qpa hd hg (h.deci.yes hp) k
theorem l_F (hd : (nth ops.toList g.1).bind (·.dst) = some d) (hg : get l d = some (.bool b)) (hp : ¬ p) (k : HL P ops Q N (⟨dst, op, ty, pos, after, some g⟩ :: rest) ((d, .bool false) :: l) H) : HL P ops Q N (⟨dst, op, ty, pos, after, some g⟩ :: rest) l H := qo9 hd hg (h.deci.no hp) k
end
/-! ### regions that draw -/
def qgo (all : List Oper) (listed : List Bool) (E : List Nat) (l : zaq) : Nat → List Oper → Option Nat
 | _, [] => none
 | i, o :: r => bif nth listed i == some false && (!qmg E i && (qlt listed o.after.toList && (qps o.op || noB all l o.guard))) then some i else qgo all listed E l (i + 1) r
theorem d_w {i : Nat} (E : List Nat) {n : Nat} {listed : Array Bool} {op : Op} {v : Value} (_hp : qgo ops.toList listed.toList E l 0 ops.toList = some i)
  (hi : nth ops.toList i = some ⟨some d, op, ty, pos, after, g⟩) (hok : okL ops N l g op d = true) (hb : zp7 ops t listed i = true) (hS : ∀ w, H w → S w) (hv : OV P op ty l S v)
  (k : HD P ops Q S t N n (listed.setIfInBounds i true) ((d, v) :: l) H) : HD P ops Q S t N (n + 1) listed l H := by
 simp only [okL, bH] at hok
 have hp' : i = i := rfl
 obtain ⟨hs, hN, hk⟩ := ze1 hok.2
 exact zva hb (zek hi) hS (fun a s => .inl ⟨zjq s hok.1, fun w hw => by rw [s.exec _ hs hk, zjl _ _ none _ _ _ "" _ #[] _ none]; exact hv.run none "" #[] w hw⟩) (fun a s => s.put hN v) k
theorem qh2 {i : Nat} (E : List Nat) {n : Nat} {listed : Array Bool} {op : Op} {g : Nat × Bool} (_hp : qgo ops.toList listed.toList E l 0 ops.toList = some i)
  (hi : nth ops.toList i = some ⟨some d, op, ty, pos, after, some g⟩) (hok : okP ops N l g d = true) (hb : zp7 ops t listed i = true) (hS : ∀ w, H w → S w)
  (k : HD P ops Q S t N n (listed.setIfInBounds i true) ((d, undef) :: l) H) : HD P ops Q S t N (n + 1) listed l H := by
 simp only [okP, bH] at hok
 obtain ⟨h1, h2⟩ := hok
 split at h2
 ·rename_i o ho
  have ho := zek ho
  split at h2
  ·rename_i t' ht
   split at h2
   ·rename_i c hc
    exact zva hb (zek hi) hS (fun a s => .inr ⟨zi1 s (by simp only [zmw, ho, gF, ht, hc]; revert h2; cases c <;> cases g.2 <;> simp), rfl⟩) (fun a s => s.put (bN h1) undef) k
   ·rename_i vs hc
    exact zva hb (zek hi) hS (fun a s => .inr ⟨zwb s (by simp only [qpn, ho, gF, ht, hc]), rfl⟩) (fun a s => s.put (bN h1) undef) k
   ·cases h2
  ·cases h2
 ·cases h2
section
variable {i n d : Nat} {listed : Array Bool} {op : Op} {dst : Option Nat} {g : Nat × Bool} {b : Bool} {p : Prop} [h : DeciN b p]
include h
theorem d_T (E : List Nat) (_hp : pick ops listed E = some i) (_hi : nth ops.toList i = some ⟨dst, op, ty, pos, after, some g⟩) (_hd : (nth ops.toList g.1).bind (·.dst) = some d) (hg : get l d = some (.bool b)) (hp : p) (k : HD P ops Q S t N n listed ((d, .bool true) :: l) H) : HD P ops Q S t N n listed l H := zxw d _ _ hg (by rw [h.deci.yes hp]) k
theorem d_F (E : List Nat) (_hp : pick ops listed E = some i) (_hi : nth ops.toList i = some ⟨dst, op, ty, pos, after, some g⟩) (_hd : (nth ops.toList g.1).bind (·.dst) = some d) (hg : get l d = some (.bool b)) (hp : ¬ p) (k : HD P ops Q S t N n listed ((d, .bool false) :: l) H) : HD P ops Q S t N n listed l H := zxw d _ _ hg (by rw [h.deci.no hp]) k
end
/-! ### rows: made, set, read -/
theorem Hp.imp {it it' : Item} {w : World} (hw : Hp w0 F (it :: m) w) (hf : ∀ k, it'.foot k → it.foot k) (hp : it.prop w → it'.prop w) (hs : it'.Stable (qqu w0 F)) : Hp w0 F (it' :: m) w := by
 refine ⟨hw.fr, fun x hx => ?_, ?_⟩
 ·rcases aJ.1 hx with rfl | hx
  ·obtain ⟨h1, -, h3⟩ := hw.item it sQ
   exact ⟨hp h1, hs, fun k hk => h3 k (hf k hk)⟩
  ·exact hw.item x (by simp [hx])
 ·obtain ⟨h1, h2⟩ := bL.1 hw.apart
  exact bL.2 ⟨fun y hy k hk => h1 y hy k (hf k hk), h2⟩
theorem Hp.ownOf {w : World} {b n sz : Nat} {cs : Array Value} {e : TypeId} {c : Nat} (hw : Hp w0 F (pt b (.cells cs e (0, 0)) :: m) w) (hn : n ≤ c) (hc : c ≤ maxLen) (hs : cs.size = c * sz) : Hp w0 F (own e sz (some (b, c)) n (cs.toList.take (n * sz)) :: m) w :=
 hw.imp (fun k ⟨c', h⟩ => by cases h; rfl) (fun h => ⟨by
  have : n * sz ≤ c * sz := eV _ hn
  rw [aO, fL, hs]; omega, hn, hc, cs, h, hs, rfl⟩) (zab _ _ _ _ _ _)
theorem qc5 {w : World} {e : TypeId} {sz n b c i : Nat} {xs : List Value} (h : (own e sz (some (b, c)) n xs).prop w) : w.frozen? ⟨b, i, none⟩ = false := by
 obtain ⟨-, -, cur, h3, -⟩ := h.2
 exact frozen_of_row w b i cur e h3
theorem qfd {w : World} {e : TypeId} {sz n b c i : Nat} {xs : List Value} (hw : Hp w0 F (own e sz (some (b, c)) n xs :: m) w) (v : Value) : Hp w0 F (own e sz (some (b, c)) n (xs.set i v) :: m) (w.setCell ⟨b, i, none⟩ v) := by
 have hp := (hw.item (own e sz (some (b, c)) n xs) sQ).1
 obtain ⟨h1, h2, cur, h3, h4, h5⟩ := hp.2
 refine Hp.call (L := [own e sz (some (b, c)) n (xs.set i v)]) (m := [own e sz (some (b, c)) n xs]) (Fc := fun k => k = b) hw ⟨⟨rfl, rfl, rfl, by simp [World.setCell], fun k _ hk => heap_setCell_other w ⟨b, i, none⟩ k v hk⟩, fun it hm => ?_, .cons (fun _ h => by cases h) .nil⟩ (fun k _ hk => ⟨own e sz (some (b, c)) n xs, by simp, ⟨c, by rw [hk]⟩⟩)
 obtain rfl : it = own e sz (some (b, c)) n (xs.set i v) := by simpa using hm
 refine ⟨⟨by simpa using hp.1, h1, h2, _, heap_setCell_same w b i cur e v h3, by simpa using h4, ?_⟩, zab _ _ _ _ _ _, fun k ⟨c', hk⟩ => ?_⟩
 ·rw [jL, ← h5, List.take_set]
 ·cases hk
  refine ⟨?_, fun _ => rfl⟩
  have := (bC.1 h3).1
  simpa [World.setCell] using this
theorem zt1 {T e : TypeId} {x y : Operand} {b i c n : Nat} {v : Value} {xs : List Value} (hok : (zhi (.store T x y) && zes l (.store T x y)) = true)
  (hx : evO l x = some (.pointer (some ⟨b, i, none⟩))) (hy : evO l y = some v) (hT : (P.info? T).map (·.size) = some 1) (h1 : v.cells = #[v]) (h2 : v.oneCell' = true) (hi : i < n) :
  HO P ⟨none, .store T x y, ty, pos, after, g⟩ Q N l (Hp w0 F (own e 1 (some (b, c)) n xs :: m)) (α := Unit) (fun _ => l) (fun _ => Hp w0 F (own e 1 (some (b, c)) n (xs.set i v) :: m)) :=
 zwa hok (fun w hw => by
  have hp := (hw.item (own e 1 (some (b, c)) n xs) sQ).1
  refine ⟨(), w.setCell ⟨b, i, none⟩ v, ?_, qfd hw v⟩
  have hl : i < xs.length := by rw [hp.1]; omega
  have hc := zbm hp i _ (aB hl)
  have hf : w.frozen? ⟨b, i, none⟩ = false := qc5 hp
  cases hq : P.info? T with
  | none => simp [hq] at hT
  | some q =>
   have hs : q.size = 1 := by simpa [hq] using hT
   cases v <;> simp [execOp, zau hx, zau hy, Instr.storeAt, Instr.sureAddr, storeVar, sizeOf, typeInfo, hq, hs, h1, storeCells, store, Addr.add, Sem.run, hc, hf] at h2 ⊢ <;> cases h2)
theorem zjc {T e : TypeId} {x : Operand} {b i c n sz : Nat} {v : Value} {xs : List Value} (hx : evO l x = some (.pointer (some ⟨b, i, none⟩))) (hT : zpi P T = true) (hm : own e sz (some (b, c)) n xs ∈ m) (hv : xs[i]? = some v) : OV P (.load T x) ty l (Hp w0 F m) v :=
 zay hx hT (fun _ hw => zbm (hw.item _ hm).1 i v hv)
theorem Hp.front {w : World} {e : TypeId} {sz n b c : Nat} {xs : List Value} (hw : Hp w0 F (own e sz (some (b, c)) n xs :: m) w) (k : Nat) (hk : k ≤ n) : Hp w0 F (own e sz (some (b, c)) k (xs.take (k * sz)) :: m) w :=
 hw.imp (fun _ h => h) (fun h => by
  obtain ⟨h1, h2, cur, h3, h4, h5⟩ := h.2
  have : k * sz ≤ n * sz := eV _ hk
  exact ⟨by have := h.1; rw [aO]; omega, oQ, h2, cur, h3, h4, by rw [← h5, List.take_take, eQ this]⟩) (zab _ _ _ _ _ _)
theorem qnk {T e : TypeId} {x y : Operand} {p : Option Addr} {n c sz : Nat} {k : IntKind} {a : Int} {i : Nat} [h : NatOf a i] (hx : evO l x = some (.slice p n c)) (hy : evO l y = some (.int k a)) (hT : zks P T = some e) (he : zc3 P e = some sz) (hi : i ≤ c) : OV P (.slice T x none (some y) none) ty l H (.slice p i c) := ov fun _ _ _ w _ => by
 obtain rfl := h.eq
 have hu := zbk hT
 have hu' : P.underlying T = some (.slice (P.elem T)) := by rw [hu]; simp [Program.elem, hu]
 have he' : P.elem T = e := by simp [Program.elem, hu]
 obtain ⟨q, hq, hqs⟩ := zbp he
 have h := run_slice_h (P := P) w T p n c hu' k i oQ oQ
 have hz : (sizeOf (P.elem T)).run P w = .ok sz w := by rw [he']; simp [sizeOf, typeInfo, hq, hqs]
 simp only [execOp, zau hx, cK, eR, zau hy, Sem.run_bind, run_sliceAt_slice w T _ _ _ _ hu', h, hz, Result.andThen_ok, bT, sliced]
 cases p <;> simp [Sem.run_pure, Addr.add]
theorem qrx {T : Array TypeId} {x y : Operand} {k k' : IntKind} {a b : Int} {i j : Nat} [h : NatOf a i] [h' : NatOf b j] (hx : evO l x = some (.int k a)) (hy : evO l y = some (.int k' b)) : OV P (.call ⟨.builtin .min, #[x, y], T⟩) ty l H (.int k (min i j : Nat)) := ov fun _ _ _ w _ => by
 obtain rfl := h.eq; obtain rfl := h'.eq
 simp only [execOp, resolve, invoke, builtin]
 simp [zau hx, zau hy, run_min_int2]
 split <;> omega
def qo4 (P : Program) (T : TypeId) : Option IntKind := match P.underlying T with | some (.int k) => some k | _ => none
theorem zvu {T : TypeId} {k : IntKind} (h : qo4 P T = some k) : P.underlying T = some (.int k) := by
 unfold qo4 at h
 split at h
 ·rename_i hu; rw [hu, cJ h]
 ·cases h
theorem qh4 {S T : TypeId} {x : Operand} {k k' : IntKind} {a : Int} {n L : Nat} [h : NatOf a n] [hL : Lim k' L] (hx : evO l x = some (.int k a)) (hS : (P.underlying S).isSome = true) (hT : qo4 P T = some k') (hn : n < L) : OV P (.convert S T x) ty l H (.int k' (n : Int)) := ov fun _ _ _ w _ => by
 obtain rfl := h.eq
 obtain ⟨u, hu⟩ := cG.1 hS
 simp only [execOp, zau hx, convert, Sem.run_bind, run_underlying hu w, run_underlying (zvu hT) w, Result.andThen_ok, Conv.intToInt, Sem.run_pure, hL.wrap n hn]
/-! ### what memory tells -/
theorem zd4 {p : Prop} (hf : ∀ w, H w → p) (k : p → HL P ops Q N rest l H) : HL P ops Q N rest l H := by
 unfold HL at *; exact fun a w s hw => k (hf w hw) a w s hw
theorem zfd {c : Code} {p : Prop} (hf : ∀ w, H w → p) (k : p → HT P c Q N l H) : HT P c Q N l H := by
 unfold HT at *; exact fun a w s hw => k (hf w hw) a w s hw
theorem qhy {e : Exit} {p : Prop} (hf : ∀ w, H w → p) (k : p → HX Q e N l H) : HX Q e N l H := by
 unfold HX at *; exact fun a w s hw => k (hf w hw) a w s hw
theorem qkt {n : Nat} {listed : Array Bool} {p : Prop} (hf : ∀ w, H w → p) (k : p → HD P ops Q S t N n listed l H) : HD P ops Q S t N n listed l H := by
 unfold HD at *; exact fun i a w s hw => k (hf w hw) i a w s hw
/-! ### calls that hand over items -/
theorem ze7 {f : FuncId} {xs : List Operand} {tys : Array TypeId} {vs : List Value} {α : Type} {val : α → Value} {φ : α → Prop} {its : α → List Item} (hg : okG ops l g = true) (hok : ze5 N l (.call ⟨.value (.func f), xs.toArray, tys⟩) d = true) (hb : zbu P f = true) (hx : evs l xs = some vs)
  (hc : ∀ w, Hp w0 F m w → Ct P f vs.toArray w none' val φ its) (k : ∀ x, φ x → HL P ops Q N rest ((d, val x) :: l) (Hp w0 F (its x ++ m))) : HL P ops Q N (⟨some d, .call ⟨.value (.func f), xs.toArray, tys⟩, ty, pos, after, g⟩ :: rest) l (Hp w0 F m) :=
 zgt hg (qdy hok hb hx hc) fun x => k x.1 x.2
theorem qq7 (i : Nat) {f : FuncId} {xs : List Operand} {tys : Array TypeId} {vs : List Value} {n : Nat} {listed : Array Bool} {α : Type} {val : α → Value} {φ : α → Prop} {its : α → List Item} {m0 : List Item} (hr0 : Region.ready .any ops listed = [i] ∧ i < t) (hi0 : nth ops.toList i = some ⟨some d, .call ⟨.value (.func f), xs.toArray, tys⟩, ty, pos, after, g⟩) (hg : okG ops l g = true)
  (hok : ze5 N l (.call ⟨.value (.func f), xs.toArray, tys⟩) d = true) (hb : zbu P f = true) (hx : evs l xs = some vs) (hS : ∀ w, Hp w0 F m w → Hp w0 F m0 w)
  (hc : ∀ w, Hp w0 F m w → Ct P f vs.toArray w none' val φ its) (k : ∀ x, φ x → HD P ops Q (Hp w0 F (its x ++ m)) t N n (listed.setIfInBounds i true) ((d, val x) :: l) (Hp w0 F (its x ++ m))) : HD P ops Q (Hp w0 F m0) t N (n + 1) listed l (Hp w0 F m) :=
 zaw i hr0 hi0 hg (qdy hok hb hx hc) (fun _ w h => hS w (h.sub (eK _ _))) fun x => qsk (fun w h => hS w (h.sub (eK _ _))) (k x.1 x.2)
/-! ### function values -/
theorem zmv {f : FuncId} {x : Operand} {fs cs : List Value} {xs : List Operand} {tys : Array TypeId} {vs us : List Value} {v : Value} (hok : ze5 N l (.call ⟨.value x, xs.toArray, tys⟩) d = true) (hb : zbu P f = true) (hf : evO l x = some (.func (.func f) fs.toArray cs.toArray)) (hx : evs l xs = some vs) (hu : fs ++ (vs ++ cs) = us)
  (hc : ∀ w, Hp w0 F m w → Pu P f us.toArray w v) : HO P ⟨some d, .call ⟨.value x, xs.toArray, tys⟩, ty, pos, after, g⟩ Q N l (Hp w0 F m) (α := Unit) (fun _ => (d, v) :: l) (fun _ => Hp w0 F m) :=
 zr1 (val := fun _ => v) hok (zx1 hf hb hx hu) (fun w hw => (hc w hw).calls.mono fun _ _ ⟨he, hf⟩ => ⟨(), he, hw.keep hf⟩)
/-! ### slices of strings -/
def qob (L : List ByteArray) : List Value := L.map Value.string
structure qd5 (w : World) (a : Option Addr) (c : Nat) (L : List ByteArray) : Prop where
 rd : Rd w a (qob L)
 cap : L.length ≤ c
theorem qm6 {L : List ByteArray} {i : Nat} (h : i < L.length) : (qob L)[i]? = some (.string L[i]) := by simp [qob, h]
theorem zb7 {b off c i sz : Nat} (hc : c ≠ i) : zrc (some ⟨b, off, none⟩) (decide (c = i)) (i * sz) = some ⟨b, off + i * sz, none⟩ := by
 simp only [zrc, decide_eq_false hc, bU, if_false, cK, zc9]
theorem qd5.drop {w : World} {a : Option Addr} {c : Nat} {L : List ByteArray} (h : qd5 w a c L) (i : Nat) (hi : i ≤ L.length) : qd5 w (zrc a (decide (c = i)) (i * 1)) (c - i) (L.drop i) := by
 refine ⟨?_, by have := h.cap; simp; omega⟩
 by_cases e : L.drop i = []
 ·exact .inl (by rw [e]; rfl)
 ·have hlt : i < L.length := by simpa using e
  have := h.cap
  rcases h.rd with h1 | ⟨b, off, rfl, h2⟩
  ·simp [qob] at h1; subst h1; simp at hlt
  ·refine .inr ⟨b, off + i * 1, zb7 oQ, fun j u hu => ?_⟩
   rw [show off + i * 1 + j = off + (i + j) by omega]
   refine h2 _ _ ?_
   simpa [qob] using hu
theorem qd5.keep {w : World} {a : Option Addr} {c : Nat} {L : List ByteArray} (h : qd5 w0 a c L) (hw : Hp w0 none' m w) : qd5 w a c L := ⟨h.rd.keep hw, h.cap⟩
theorem qd5.fr {w : World} {a : Option Addr} {c : Nat} {L : List ByteArray} (h : qd5 w0 a c L) (hw : Fr none' w0 w) : qd5 w a c L := ⟨h.rd.fr hw, h.cap⟩
theorem qd5.at_ {w : World} {a : Option Addr} {c : Nat} {L : List ByteArray} (h : qd5 w a c L) (h0 : 0 < L.length) : ∃ b off, a = some ⟨b, off, none⟩ ∧ ∀ i (hi : i < L.length), w.cell? ⟨b, off + i, none⟩ = some (.string L[i]) := by
 rcases h.rd with h1 | ⟨b, off, rfl, h2⟩
 ·simp [qob] at h1; subst h1; simp at h0
 ·exact ⟨b, off, rfl, fun i hi => h2 i _ (qm6 hi)⟩
/-! ### one step, whatever it is -/
theorem s_ {G X : Prop} (k : G) (h : G → X := by first | with_reducible (first | exact zi7 | exact zeg | exact zuj | exact qj3 | exact qbe | exact qbc | exact zkj | exact zf9 | exact zig | exact zj2 | exact zif | exact zfu | exact zhe | fail) | with_reducible exact zie rfl | exact l_w rfl (by first | exact zdu rfl | exact zcb rfl | exact qbj rfl rfl | exact zc6 rfl rfl | exact zct rfl rfl | exact zem rfl rfl | exact zhb rfl rfl | exact zds rfl rfl | exact qbp rfl | exact zdt rfl rfl (by repeat first | exact .head _ | apply List.Mem.tail) | exact zcl rfl rfl (by repeat first | exact .head _ | apply List.Mem.tail) rfl | exact zdk rfl rfl (by repeat first | exact .head _ | apply List.Mem.tail) | exact zl0 rfl rfl rfl | ((first | refine zzo rfl rfl ?_ | refine zj5 rfl rfl rfl ?_ | refine zl1 rfl rfl rfl ?_ | refine qbu rfl rfl rfl ?_ | refine qbs rfl rfl rfl ?_ | refine qbt rfl rfl rfl ?_ | refine zl2 rfl rfl rfl rfl ?_ | refine qbo rfl rfl rfl rfl ?_ | refine qbn rfl rfl rfl ?_ | refine qbm rfl rfl rfl ?_); first | omega | assumption | fail) | exact qbr rfl rfl (by first | omega | assumption | (simp; done) | fail) | exact qbq rfl rfl (by first | omega | assumption | (simp; done) | fail) | exact ze3 rfl rfl rfl | fail) | exact qqr rfl | exact t_T rfl rfl (by first | omega | assumption | (simp; done) | fail) | exact t_F rfl rfl (by first | omega | assumption | (simp; done) | fail) | exact l_T rfl rfl (by first | omega | assumption | (simp; done) | fail) | exact l_F rfl rfl (by first | omega | assumption | (simp; done) | fail) | fail) : X := h k
theorem d_ {G X : Prop} (k : G) (h : G → X := by first | exact d_w [] rfl rfl rfl kQ (fun _ h => h) (by first | exact zdu rfl | exact zcb rfl | exact qbj rfl rfl | exact zc6 rfl rfl | exact zct rfl rfl | exact zem rfl rfl | exact zhb rfl rfl | exact zds rfl rfl | exact qbp rfl | exact zdt rfl rfl (by repeat first | exact .head _ | apply List.Mem.tail) | exact zcl rfl rfl (by repeat first | exact .head _ | apply List.Mem.tail) rfl | exact zdk rfl rfl (by repeat first | exact .head _ | apply List.Mem.tail) | exact zl0 rfl rfl rfl | ((first | refine zzo rfl rfl ?_ | refine zj5 rfl rfl rfl ?_ | refine zl1 rfl rfl rfl ?_ | refine qbu rfl rfl rfl ?_ | refine qbs rfl rfl rfl ?_ | refine qbt rfl rfl rfl ?_ | refine zl2 rfl rfl rfl rfl ?_ | refine qbo rfl rfl rfl rfl ?_ | refine qbn rfl rfl rfl ?_ | refine qbm rfl rfl rfl ?_); first | omega | assumption | fail) | exact qbr rfl rfl (by first | omega | assumption | (simp; done) | fail) | exact qbq rfl rfl (by first | omega | assumption | (simp; done) | fail) | exact ze3 rfl rfl rfl | fail) | exact qh2 [] rfl rfl rfl kQ (fun _ h => h) | exact d_T [] rfl rfl rfl rfl (by first | omega | assumption | (simp; done) | fail) | exact d_F [] rfl rfl rfl rfl (by first | omega | assumption | (simp; done) | fail) | fail) : X := h k
end Go.Eng
namespace Go.Eng
open Go.RowKit
set_option maxRecDepth 100000
section
variable {P : Program} {l : zaq} {H : World → Prop} {x y : Operand} {xt yt ty : TypeId}
abbrev w32 (a : BitVec 32) : Value := .int .u32 (a.toNat : Int)
theorem zkm (a : BitVec 32) : BitVec.ofInt 32 (a.toNat : Int) = a := by rw [zbo, BitVec.ofNat_toNat, BitVec.setWidth_eq]
theorem qqj (n : Nat) : IntKind.u32.wrap (n : Int) = ((BitVec.ofNat 32 n).toNat : Int) := by rw [zg9, bS]
theorem zur (a : BitVec 32) : IntKind.u32.wrap (a.toNat : Int) = (a.toNat : Int) := by rw [qqj, BitVec.ofNat_toNat, BitVec.setWidth_eq]
theorem qqi {a b : BitVec 32} (hx : evO l x = some (w32 a)) (hy : evO l y = some (w32 b)) : OV P (.binOp .xor xt x y yt) ty l H (w32 (a ^^^ b)) :=
 zsv (zfm hx hy fun _ => rfl) (by
  show Value.int .u32 (IntKind.u32.wrap ((BitVec.ofInt 32 a.toNat ^^^ BitVec.ofInt 32 b.toNat).toNat)) = _
  rw [zkm, zkm, zur])
theorem qld {a b : BitVec 32} (hx : evO l x = some (w32 a)) (hy : evO l y = some (w32 b)) : OV P (.binOp .and xt x y yt) ty l H (w32 (a &&& b)) :=
 zsv (zfm hx hy fun _ => rfl) (by
  show Value.int .u32 (IntKind.u32.wrap ((BitVec.ofInt 32 a.toNat &&& BitVec.ofInt 32 b.toNat).toNat)) = _
  rw [zkm, zkm, zur])
theorem qrz {a b : BitVec 32} (hx : evO l x = some (w32 a)) (hy : evO l y = some (w32 b)) : OV P (.binOp .or xt x y yt) ty l H (w32 (a ||| b)) :=
 zsv (zfm hx hy fun _ => rfl) (by
  show Value.int .u32 (IntKind.u32.wrap ((BitVec.ofInt 32 a.toNat ||| BitVec.ofInt 32 b.toNat).toNat)) = _
  rw [zkm, zkm, zur])
theorem qhw (a b : BitVec 32) : IntKind.u32.wrap ((a.toNat : Int) + (b.toNat : Int)) = ((a + b).toNat : Int) := by
 rw [← jD, zg9, BitVec.toNat_add]
theorem qj9 {a b : BitVec 32} (hx : evO l x = some (w32 a)) (hy : evO l y = some (w32 b)) : OV P (.binOp .add xt x y yt) ty l H (w32 (a + b)) :=
 zsv (zfm hx hy fun _ => rfl) (by
  show Value.int .u32 (IntKind.u32.wrap ((a.toNat : Int) + (b.toNat : Int))) = _
  rw [qhw])
theorem qqd {t : TypeId} {a : BitVec 32} (hx : evO l x = some (w32 a)) : OV P (.unOp .xor t x) ty l H (w32 (~~~a)) := ov fun _ _ _ w _ => by
 have e : (Op.unary .xor (.int .u32 a.toNat) : Sem Value).run P w = .ok (w32 (~~~a)) w := by
  show Result.ok (Value.int .u32 (IntKind.u32.wrap ((BitVec.ofInt 32 ((4294967295 : Nat) : Int) ^^^ BitVec.ofInt 32 (a.toNat : Int)).toNat))) w = _
  rw [zkm, zur, show BitVec.ofInt 32 ((4294967295 : Nat) : Int) = BitVec.allOnes 32 from rfl, BitVec.allOnes_xor]
 simp only [execOp, zau hx, Sem.run_bind, e]; rfl
theorem zsk {op : BinOp} {k q : IntKind} (hop : op = .shl ∨ op = .shr) (n : Int) (s : Nat) (w : World) :
  (do eqGuard op xt x y (.int k n) (.int q s); binOp op xt (.int k n) (.int q s) : Sem Value).run P w = .ok (match op with | .shl => .int k (k.wrap (n * 2 ^ (min s k.bits))) | _ => .int k (n.fdiv (2 ^ (min s k.bits)))) w := by
 have h0 : ¬ ((s : Int) < 0) := oQ
 rcases hop with rfl | rfl
 ·show ((binOp .shl xt (.int k n) (.int q s)).run P w) = _
  simp only [binOp, Op.shift, h0, if_false, bT]; rfl
 ·show ((binOp .shr xt (.int k n) (.int q s)).run P w) = _
  simp only [binOp, Op.shift, h0, if_false, bT]; rfl
theorem qli {a : BitVec 32} {q : IntKind} {s : Nat} (hx : evO l x = some (w32 a)) (hy : evO l y = some (.int q s)) (hs : s ≤ 32) : OV P (.binOp .shr xt x y yt) ty l H (w32 (a >>> s)) :=
 zsv (zfm hx hy (zsk (.inr rfl) _ _)) (by
  have e : min s IntKind.u32.bits = s := by show min s 32 = s; omega
  have e2 : (2 : Int) ^ s = ((2 ^ s : Nat) : Int) := by simp
  have e3 : (a.toNat : Int).fdiv ((2 ^ s : Nat) : Int) = ((a >>> s).toNat : Int) := by
   rw [gU _ (jO _), BitVec.toNat_ushiftRight, Nat.shiftRight_eq_div_pow]; rfl
  simp only [e, e2, e3])
theorem qlh {a : BitVec 32} {q : IntKind} {s : Nat} (hx : evO l x = some (w32 a)) (hy : evO l y = some (.int q s)) (hs : s ≤ 32) : OV P (.binOp .shl xt x y yt) ty l H (w32 (a <<< s)) :=
 zsv (zfm hx hy (zsk (.inl rfl) _ _)) (by
  have e : min s IntKind.u32.bits = s := by show min s 32 = s; omega
  have e2 : ((a.toNat : Int) * 2 ^ s) = ((a.toNat * 2 ^ s : Nat) : Int) := by simp
  have e3 : a.toNat * 2 ^ s % 4294967296 = (a <<< s).toNat := by rw [BitVec.toNat_shiftLeft, Nat.shiftLeft_eq]
  simp only [e, e2, zg9, e3])
theorem qrf {b : Nat} (h : b < 4294967296) : (b : Int) = ((BitVec.ofNat 32 b).toNat : Int) := by rw [bS, aY h]
theorem qnt {a : BitVec 32} {q : IntKind} {s : Nat} (hx : evO l x = some (w32 a)) (hy : evO l y = some (.int q (@OfNat.ofNat Int s _))) (hs : @OfNat.ofNat Nat s _ ≤ 32) : OV P (.binOp .shr xt x y yt) ty l H (w32 (a >>> (@OfNat.ofNat Nat s _))) := qli hx hy hs
theorem qns {a : BitVec 32} {q : IntKind} {s : Nat} (hx : evO l x = some (w32 a)) (hy : evO l y = some (.int q (@OfNat.ofNat Int s _))) (hs : @OfNat.ofNat Nat s _ ≤ 32) : OV P (.binOp .shl xt x y yt) ty l H (w32 (a <<< (@OfNat.ofNat Nat s _))) := qlh hx hy hs
theorem qni {a : BitVec 32} {b : Nat} (hx : evO l x = some (w32 a)) (hy : evO l y = some (.int .u32 (@OfNat.ofNat Int b _))) (hb : @OfNat.ofNat Nat b _ < 4294967296) : OV P (.binOp .and xt x y yt) ty l H (w32 (a &&& BitVec.ofNat 32 (@OfNat.ofNat Nat b _))) := qld hx (hy.trans (congrArg (fun i => some (Value.int .u32 i)) (qrf hb)))
end
end Go.Eng
namespace Go.Proofs.YtkkfifhaobjicaaGreatDoor
open Go.Eng
set_option maxRecDepth 100000
def halves : List (BitVec 32) := [0x00000000#32, 0x105ec76f#32, 0x20bd8ede#32, 0x30e349b1#32, 0x417b1dbc#32, 0x5125dad3#32, 0x61c69362#32, 0x7198540d#32, 0x82f63b78#32, 0x92a8fc17#32, 0xa24bb5a6#32, 0xb21572c9#32, 0xc38d26c4#32, 0xd3d3e1ab#32, 0xe330a81a#32, 0xf36e6f75#32]
def qqq (m : BitVec 32) : BitVec 32 := halves[(m &&& 15#32).toNat]?.getD 0 ^^^ m >>> 4
def qb5 (n : BitVec 32) (c : UInt8) : BitVec 32 := qqq (qqq (n ^^^ BitVec.ofNat 32 c.toNat))
def zs4 (s : List UInt8) : BitVec 32 := ~~~ (s.foldl qb5 (BitVec.allOnes 32))
/-! ### groups of 16 bits as a number -/
def val : List Nat → Nat
 | [] => 0
 | d :: l => d + 65536 * val l
abbrev W32 := BitVec 32
def qqv (x : W32) (n : Nat) : W32 := x >>> n ||| x <<< (32 - n)
def sg0 (x : W32) : W32 := qqv x 7 ^^^ qqv x 18 ^^^ x >>> 3
def sg1 (x : W32) : W32 := qqv x 17 ^^^ qqv x 19 ^^^ x >>> 10
structure V8 where
 a : W32
 b : W32
 c : W32
 d : W32
 e : W32
 f : W32
 g : W32
 h : W32
def V8.l (v : V8) : List W32 := [v.a, v.b, v.c, v.d, v.e, v.f, v.g, v.h]
def V8.add (v w : V8) : V8 := ⟨v.a + w.a, v.b + w.b, v.c + w.c, v.d + w.d, v.e + w.e, v.f + w.f, v.g + w.g, v.h + w.h⟩
def qg5 (m : Nat → W32) (i : Nat) : W32 :=
 if h : i < 16 then m i else qg5 m (i - 16) + sg0 (qg5 m (i - 15)) + qg5 m (i - 7) + sg1 (qg5 m (i - 2))
termination_by i
decreasing_by all_goals omega
/-! ### the qsn of the program -/
def qpu (n j : Nat) : Nat := max n 16 - 16 + (j + 15 * max n 16) % 16
def qsn (m : Nat → W32) (n : Nat) : List W32 := (List.range 16).map fun j => qg5 m (qpu n j)
def beN : Nat → Nat → List UInt8
 | 0, _ => []
 | w + 1, n => beN w (n / 256) ++ [UInt8.ofNat n]
theorem zam : ∀ (w n : Nat), (beN w n).length = w
 | 0, _ => rfl
 | w + 1, n => by rw [beN, aA, zam w]; rfl
def beV (l : List UInt8) : Nat := l.foldl (fun n c => n * 256 + c.toNat) 0
theorem zz4 (l : List UInt8) (c : UInt8) : beV (l ++ [c]) = beV l * 256 + c.toNat := by
 rw [beV, beV, List.foldl_append]; rfl
theorem zxp : ∀ (w n : Nat), n < 256 ^ w → beV (beN w n) = n
 | 0, n, h => by simp at h; subst h; rfl
 | w + 1, n, h => by
  rw [beN, zz4, zxp w (n / 256) (by rw [gL] at h; omega)]
  have : (UInt8.ofNat n).toNat = n % 256 := by simp
  rw [this]
  omega
theorem qei : ∀ (l : List UInt8) (n k : Nat), n < 256 ^ k → l.foldl (fun n c => n * 256 + c.toNat) n < 256 ^ (k + l.length)
 | [], _, _, h => h
 | c :: l, n, k, h => by
  have hc := c.toNat_lt
  have := qei l (n * 256 + c.toNat) (k + 1) (by rw [gL]; omega)
  rw [List.foldl_cons, aZ, show k + (l.length + 1) = k + 1 + l.length by omega]
  exact this
theorem qkq (l : List UInt8) : beV l < 256 ^ l.length := by
 have := qei l 0 0 dQ
 rwa [aF] at this
abbrev Bys := List UInt8
abbrev Opn := Bys × Bool
def opT (n : Nat) (o : Opn) : Bys × Opn := if o.2 then ([], o) else if o.1.length < n then ([], (o.1, true)) else (o.1.take n, (o.1.drop n, false))
def opN (w : Nat) (o : Opn) : Nat × Opn := (beV (opT w o).1, (opT w o).2)
theorem zpl (a b : Bys) : opT a.length (a ++ b, false) = (a, (b, false)) := by
 unfold opT
 simp
theorem zik {w n : Nat} (h : n < 256 ^ w) (b : Bys) : opN w (beN w n ++ b, false) = (n, (b, false)) := by
 have := zpl (beN w n) b
 rw [zam] at this
 rw [opN, this]
 simp only [zxp w n h]
theorem qge (n : Nat) (r : Bys) : opT n (r, true) = ([], (r, true)) := by simp [opT]
theorem zpk (n : Nat) (o : Opn) : (opT n o).1.length ≤ n := by
 unfold opT
 split
 ·simp
 ·split
  ·simp
  ·rw [aO]; omega
def chP (l : List Bys) : Bys := l.flatMap fun c => beN 2 c.length ++ c
structure qr5 where
 root : Bys
 chunks : List Bys
def qpg : Bys := [65, 82, 83, 84]
def qoq (x : qr5) : Bys := qpg ++ x.root ++ beN 2 x.chunks.length ++ chP x.chunks
def qsp (s : Bys) : Bys := beN 4 (zs4 s).toNat
def putF (x : qr5) : Bys := qoq x ++ qsp (qoq x)
end Go.Proofs.YtkkfifhaobjicaaGreatDoor
namespace Go.Eng.Tr
set_option maxRecDepth 100000
abbrev K := List UInt8
def kl (a b : K) : Prop := Op.bytesLess a b = true
instance (a b : K) : Decidable (kl a b) := inferInstanceAs (Decidable (_ = _))
theorem zdw : ∀ a : K, ¬ kl a a
 | [], h => by cases h
 | a :: x, h => by
  unfold kl Op.bytesLess at h
  rw [gM] at h
  rcases h with h | h
  ·exact absurd (of_decide_eq_true h) (UInt8.lt_irrefl _)
  ·rw [bH] at h; exact zdw x h.2
theorem zb1 : ∀ {a b c : K}, kl a b → kl b c → kl a c
 | _, [], _, h, _ => by unfold kl Op.bytesLess at h; cases h
 | _, _ :: _, [], _, h => by unfold kl Op.bytesLess at h; cases h
 | [], _ :: _, _ :: _, _, _ => rfl
 | a :: x, b :: y, c :: z, h1, h2 => by
  unfold kl Op.bytesLess at h1 h2 ⊢
  simp only [gM, bH, decide_eq_true_eq, beq_iff_eq] at h1 h2 ⊢
  rcases h1 with h1 | ⟨rfl, h1⟩
  ·rcases h2 with h2 | ⟨rfl, h2⟩
   ·exact .inl (UInt8.lt_trans h1 h2)
   ·exact .inl h1
  ·rcases h2 with h2 | ⟨rfl, h2⟩
   ·exact .inl h2
   ·exact .inr ⟨rfl, zb1 (a := x) (b := y) (c := z) h1 h2⟩
theorem zlg : ∀ (a b : K), kl a b ∨ a = b ∨ kl b a
 | [], [] => .inr (.inl rfl)
 | [], _ :: _ => .inl rfl
 | _ :: _, [] => .inr (.inr rfl)
 | a :: x, b :: y => by
  unfold kl Op.bytesLess
  simp only [gM, bH, decide_eq_true_eq, beq_iff_eq]
  rcases jX a.toNat b.toNat with h | h | h
  ·exact .inl (.inl (UInt8.lt_iff_toNat_lt.2 h))
  ·obtain rfl : a = b := UInt8.toNat_inj.1 h
   rcases zlg x y with h | rfl | h
   ·exact .inl (.inr ⟨rfl, h⟩)
   ·exact .inr (.inl rfl)
   ·exact .inr (.inr (.inr ⟨rfl, h⟩))
  ·exact .inr (.inr (.inl (UInt8.lt_iff_toNat_lt.2 h)))
theorem zey {a b : K} (h : kl a b) : ¬ kl b a := fun h' => zdw a (zb1 h h')
theorem zht {a b : K} (h : kl a b) : a ≠ b := fun e => zdw b (e ▸ h)
theorem qo8 {a b : K} (h : ¬ kl a b) (hne : a ≠ b) : kl b a := by
 rcases zlg a b with h1 | h1 | h1
 ·exact absurd h1 h
 ·exact absurd h1 hne
 ·exact h1
theorem qmh {a b : K} (h : ¬ kl a b) : kl b a ∨ b = a := by
 rcases zlg a b with h1 | h1 | h1
 ·exact absurd h1 h
 ·exact .inr h1.symm
 ·exact .inl h1
theorem zdg {a b c : K} (h1 : ¬ kl b a) (h2 : kl b c) : kl a c := by
 rcases qmh h1 with h | rfl
 ·exact zb1 h h2
 ·exact h2
theorem ztv {a b c : K} (h1 : kl a b) (h2 : ¬ kl c b) : kl a c := by
 rcases qmh h2 with h | rfl
 ·exact zb1 h1 h
 ·exact h1
/-! ### places in a row of keys -/
def Ks (l : List K) : Prop := l.Pairwise kl
def lb (ns : List K) (t : K) : Nat := (ns.takeWhile fun x => decide (kl x t)).length
def fd (ns : List K) (t : K) : Bool := decide (ns[lb ns t]? = some t)
theorem zvy (ns : List K) (t : K) : lb ns t ≤ ns.length := (List.takeWhile_sublist _).length_le
theorem qpc {ns : List K} {t : K} : ∀ {k : Nat} (h : k < ns.length), k < lb ns t → kl ns[k] t := by
 induction ns with
 | nil => intro k h; simp at h
 | cons x r ih =>
  intro k h hk
  by_cases hx : kl x t
  ·have e : lb (x :: r) t = lb r t + 1 := by simp [lb, hx]
   cases k with
   | zero => exact hx
   | succ k => exact ih (k := k) (by simpa using h) oQ
  ·have e : lb (x :: r) t = 0 := by simp [lb, hx]
   omega
theorem qre {ns : List K} {t : K} (hs : Ks ns) : ∀ {k : Nat} (h : k < ns.length), lb ns t ≤ k → ¬ kl ns[k] t := by
 induction ns with
 | nil => intro k h; simp at h
 | cons x r ih =>
  obtain ⟨hs1, hs2⟩ := bL.1 hs
  intro k h hk
  by_cases hx : kl x t
  ·have e : lb (x :: r) t = lb r t + 1 := by simp [lb, hx]
   cases k with
   | zero => omega
   | succ k => exact ih hs2 (k := k) (by simpa using h) oQ
  ·cases k with
   | zero => exact hx
   | succ k => exact fun h' => hx (zb1 (hs1 _ (aR (by simpa using h))) h')
theorem qpd {ns : List K} {t : K} : ∀ {i : Nat}, i ≤ ns.length → (∀ k (h : k < ns.length), k < i → kl ns[k] t) → (∀ h : i < ns.length, ¬ kl ns[i] t) → lb ns t = i := by
 induction ns with
 | nil => intro i h _ _; simp at h; simp [lb, h]
 | cons x r ih =>
  intro i h h1 h2
  cases i with
  | zero => have := h2 sQ; simp only [iK] at this; simp [lb, this]
  | succ i =>
   have h3 := h1 0 sQ oQ
   simp only [iK] at h3
   have h4 := ih (i := i) (by simpa using h) (fun k hk hki => by have := h1 (k + 1) (by simpa using hk) oQ; simpa using this) (fun hk => by have := h2 (by simpa using hk); simpa using this)
   simp only [lb] at h4
   simp [lb, h3, h4]
theorem ziw {ns : List K} {t : K} : fd ns t = true ↔ ns[lb ns t]? = some t := by simp [fd]
theorem qaa {ns : List K} {t : K} (hs : Ks ns) : fd ns t = true ↔ t ∈ ns := by
 rw [ziw]
 refine ⟨cH, fun h => ?_⟩
 obtain ⟨i, hi, rfl⟩ := bI h
 have e : lb ns ns[i] = i := qpd oQ (fun k hk hki => cM.1 hs k i hk hi hki) (fun _ => zdw _)
 rw [e, aB hi]
def dn (ns : List K) (t : K) : Nat := if fd ns t then lb ns t + 1 else lb ns t
theorem zn0 (ns : List K) (t : K) : dn ns t ≤ ns.length := by
 unfold dn
 split
 ·rename_i h
  have := (aM.1 (ziw.1 h)).1
  omega
 ·exact zvy ns t
theorem qow {ns : List K} {t : K} {k : Nat} (h : k < ns.length) (hk : k < dn ns t) : ¬ kl t ns[k] := by
 unfold dn at hk
 split at hk
 ·rename_i hf
  rcases Nat.lt_succ_iff_lt_or_eq.1 hk with h1 | rfl
  ·exact zey (qpc h h1)
  ·have := ziw.1 hf
   rw [aB h] at this
   rw [cJ this]
   exact zdw _
 ·exact zey (qpc h hk)
theorem qov {ns : List K} {t : K} (hs : Ks ns) {k : Nat} (h : k < ns.length) (hk : dn ns t ≤ k) : kl t ns[k] := by
 unfold dn at hk
 split at hk
 ·rename_i hf
  have h1 := ziw.1 hf
  obtain ⟨h2, h3⟩ := aM.1 h1
  have := cM.1 hs (lb ns t) k h2 h oQ
  rwa [h3] at this
 ·rename_i hf
  have h1 := qre hs h hk
  rcases qmh h1 with h2 | h2
  ·exact h2
  ·exfalso
   apply hf
   rw [qaa hs, h2]
   exact aR h
/-! ### rows of keys and values -/
abbrev E := List (K × K)
def Es (e : E) : Prop := Ks (e.map (·.1))
def zfp : E → K → K → E
 | [], k, v => [(k, v)]
 | p :: r, k, v => if k = p.1 then (k, v) :: r else if kl k p.1 then (k, v) :: p :: r else p :: zfp r k v
def zld (e : E) (k : K) : Option K := (e.find? fun p => decide (p.1 = k)).map (·.2)
def zc1 (e : E) (k : K) : E := e.filter fun p => decide (p.1 ≠ k)
def zim (e : E) (k : K) (also : Bool) : Option (K × K) := e.find? fun p => decide (kl k p.1) || also && decide (p.1 = k)
def ze6 (e : E) (k : K) : Prop := ∀ p ∈ e, kl p.1 k
def zxm (e : E) (k : K) : Prop := ∀ p ∈ e, kl k p.1
theorem qgt {A : E} {k : K} (h : ze6 A k) (e : E) (v : K) : zfp (A ++ e) k v = A ++ zfp e k v := by
 induction A with
 | nil => rfl
 | cons p A ih =>
  have hp := h p (.head _)
  show (if k = p.1 then _ else if kl k p.1 then _ else p :: zfp (A ++ e) k v) = _
  rw [if_neg (fun h => zht hp h.symm), if_neg (zey hp), ih fun q hq => h q (.tail _ hq)]
  rfl
theorem qgs {B : E} {k v : K} (h : zxm B k) : zfp B k v = (k, v) :: B := by
 cases B with
 | nil => rfl
 | cons p B =>
  have hp := h p (.head _)
  show (if k = p.1 then _ else if kl k p.1 then _ else _) = _
  rw [if_neg (zht hp), if_pos hp]
theorem zsa {B : E} {k v : K} (h : zxm B k) : ∀ e : E, zfp (e ++ B) k v = zfp e k v ++ B
 | [] => qgs h
 | p :: e => by
  show (if k = p.1 then _ else if kl k p.1 then _ else p :: zfp (e ++ B) k v) = (if k = p.1 then _ else if kl k p.1 then _ else p :: zfp e k v) ++ B
  split
  ·rfl
  ·split
   ·rfl
   ·rw [zsa h e]; rfl
theorem qjt {A e B : E} {k v : K} (hA : ze6 A k) (hB : zxm B k) : zfp (A ++ (e ++ B)) k v = A ++ (zfp e k v ++ B) := by
 rw [qgt hA, zsa hB]
theorem qis {A e B : E} {k : K} (hA : ze6 A k) (hB : zxm B k) : zld (A ++ (e ++ B)) k = zld e k := by
 have h1 : A.find? (fun p => decide (p.1 = k)) = none := dP.2 fun p hp => by simpa using zht (hA p hp)
 have h2 : B.find? (fun p => decide (p.1 = k)) = none := dP.2 fun p hp => by simpa using (zht (hB p hp)).symm
 unfold zld
 rw [gS, gS, h1, h2]
 simp
theorem qij {A e B : E} {k : K} (hA : ze6 A k) (hB : zxm B k) : zc1 (A ++ (e ++ B)) k = A ++ (zc1 e k ++ B) := by
 have h1 : A.filter (fun p => decide (p.1 ≠ k)) = A := cX.2 fun p hp => by simpa using zht (hA p hp)
 have h2 : B.filter (fun p => decide (p.1 ≠ k)) = B := cX.2 fun p hp => by simpa using (zht (hB p hp)).symm
 unfold zc1
 rw [gH, gH, h1, h2]
structure Sh where
 kw : Nat
 vw : Nat
def Sh.cap (s : Sh) : Nat := 508 / (s.kw + s.vw)
def Sh.fan (s : Sh) : Nat := (508 + s.kw) / (s.kw + 2)
def T : Nat → Type
 | 0 => Nat × E
 | h + 1 => Nat × List K × List (T h)
def pg : {h : Nat} → T h → Nat
 | 0, t => t.1
 | _ + 1, t => t.1
def ents : {h : Nat} → T h → E
 | 0, t => t.2
 | _ + 1, t => t.2.2.flatMap ents
def pgs : {h : Nat} → T h → List Nat
 | 0, t => [t.1]
 | _ + 1, t => t.1 :: t.2.2.flatMap pgs
def zbj (p : Nat) (es : E) : T 0 := (p, es)
def zat {h : Nat} (p : Nat) (ks : List K) (kids : List (T h)) : T (h + 1) := (p, ks, kids)
def zgn (e : E) (k : K) : Prop := ∀ p ∈ e, ¬ kl p.1 k
def Sep : List K → List E → Prop
 | [], [_] => True
 | k :: ks, e :: es => ze6 e k ∧ (∀ e' ∈ es, zgn e' k) ∧ Sep ks es
 | _, _ => False
def Ord : {h : Nat} → T h → Prop
 | 0, t => Es t.2
 | _ + 1, t => Ks t.2.1 ∧ Sep t.2.1 (t.2.2.map ents) ∧ ∀ x ∈ t.2.2, Ord x
def Wd (s : Sh) : {h : Nat} → T h → Prop
 | 0, t => ∀ p ∈ t.2, p.1.length = s.kw ∧ p.2.length = s.vw
 | _ + 1, t => (∀ k ∈ t.2.1, k.length = s.kw) ∧ ∀ x ∈ t.2.2, Wd s x
def sz : {h : Nat} → T h → Nat
 | 0, t => t.2.length
 | _ + 1, t => t.2.2.length
def mx (s : Sh) : Nat → Nat
 | 0 => s.cap
 | _ + 1 => s.fan
def Below (s : Sh) : {h : Nat} → T h → Prop
 | 0, _ => True
 | h + 1, t => ∀ x ∈ t.2.2, mx s h / 2 ≤ sz x ∧ sz x ≤ mx s h ∧ Below s x
theorem Sep.len : ∀ {ks : List K} {es : List E}, Sep ks es → es.length = ks.length + 1
 | [], [_], _ => rfl
 | _ :: ks, _ :: es, h => by rw [aZ, aZ, Sep.len h.2.2]
theorem Sep.lt : ∀ {ks : List K} {es : List E}, Sep ks es → ∀ {i j : Nat} (hi : i < ks.length) (hj : j < es.length), j ≤ i → ze6 es[j] ks[i] → ze6 es[j] ks[i] := fun _ _ _ _ _ _ h => h
theorem Sep.part {ks : List K} {es : List E} (hk : Ks ks) (h : Sep ks es) : (∀ i j (hi : i < ks.length) (hj : j < es.length), j ≤ i → ze6 es[j] ks[i]) ∧ ∀ i j (hi : i < ks.length) (hj : j < es.length), i < j → zgn es[j] ks[i] := by
 induction ks generalizing es with
 | nil => exact ⟨fun i j hi => absurd hi (fC _), fun i j hi => absurd hi (fC _)⟩
 | cons k ks ih =>
  cases es with
  | nil => exact absurd h (by simp [Sep])
  | cons e es =>
   obtain ⟨h1, h2, h3⟩ := h
   obtain ⟨k1, k2⟩ := bL.1 hk
   obtain ⟨i1, i2⟩ := ih k2 h3
   refine ⟨fun i j hi hj hij => ?_, fun i j hi hj hij => ?_⟩
   ·cases j with
    | zero =>
     cases i with
     | zero => exact h1
     | succ i => exact fun p hp => zb1 (h1 p hp) (k1 _ (aR _))
    | succ j =>
     cases i with
     | zero => omega
     | succ i => exact i1 i j (by simpa using hi) (by simpa using hj) oQ
   ·cases j with
    | zero => omega
    | succ j =>
     cases i with
     | zero => exact h2 _ (aR _)
     | succ i => exact i2 i j (by simpa using hi) (by simpa using hj) oQ
theorem Sep.of {ks : List K} {es : List E} (hl : es.length = ks.length + 1) (h1 : ∀ i (hi : i < ks.length) (hj : i < es.length), ze6 es[i] ks[i]) (h2 : ∀ i j (hi : i < ks.length) (hj : j < es.length), i < j → zgn es[j] ks[i]) : Sep ks es := by
 induction ks generalizing es with
 | nil =>
  match es, hl with
  | [_], _ => trivial
 | cons k ks ih =>
  cases es with
  | nil => simp at hl
  | cons e es =>
   refine ⟨h1 0 sQ sQ, fun e' he => ?_, ih (by simpa using hl) (fun i hi hj => h1 (i + 1) (by simpa using hi) (by simpa using hj)) fun i j hi hj hij => h2 (i + 1) (j + 1) (by simpa using hi) (by simpa using hj) oQ⟩
   obtain ⟨j, hj, rfl⟩ := bI he
   exact h2 0 (j + 1) sQ (by simpa using hj) oQ
/-! ### what is less lies ahead -/
theorem zhr {α : Type} (l : List α) (f : α → E) {i : Nat} (hi : i < l.length) : l.flatMap f = (l.take i).flatMap f ++ (f l[i] ++ (l.drop (i + 1)).flatMap f) := by
 conv => lhs; rw [← bE i l, bY hi]
 rw [bB, aW]
theorem Sep.mid {h : Nat} {ks : List K} {kids : List (T h)} (hk : Ks ks) (hs : Sep ks (kids.map ents)) (key : K) : ze6 ((kids.take (dn ks key)).flatMap ents) key ∧ zxm ((kids.drop (dn ks key + 1)).flatMap ents) key := by
 obtain ⟨p1, p2⟩ := hs.part hk
 have hl := hs.len
 rw [aG] at hl
 refine ⟨fun p hp => ?_, fun p hp => ?_⟩
 ·obtain ⟨x, hx, hpx⟩ := cB.1 hp
  obtain ⟨j, hj, rfl⟩ := bI hx
  rw [aO] at hj
  have hj2 : j < kids.length := oQ
  rw [dO] at hpx
  have hjk : j < ks.length := by have := zn0 ks key; omega
  have h1 := p1 j j hjk (by rw [aG]; exact hj2) (aX _)
  rw [cW] at h1
  exact ztv (h1 p hpx) (qow hjk oQ)
 ·obtain ⟨x, hx, hpx⟩ := cB.1 hp
  obtain ⟨j, hj, rfl⟩ := bI hx
  rw [aU] at hj
  rw [dH] at hpx
  have hd : dn ks key < ks.length := oQ
  have h1 := p2 (dn ks key) (dn ks key + 1 + j) hd (by rw [aG]; omega) oQ
  rw [cW] at h1
  exact ztv (qov hk hd (aX _)) (h1 p hpx)
/-! ### a split -/
def nw (n : Nat) (S : Nat → Bool) : Nat := ((List.range n).find? fun i => !S i).getD 0
def us (S : Nat → Bool) (i : Nat) (u : Bool) : Nat → Bool := fun j => if j = i then u else S j
abbrev Res (h : Nat) := T h × Option (K × T h) × (Nat → Bool)
def zb8 (s : Sh) (n : Nat) (S : Nat → Bool) : {h : Nat} → T h → Res h
 | 0, t => if t.2.length ≤ s.cap then (t, none, S) else
  (zbj t.1 (t.2.take (t.2.length / 2)), some (((t.2.drop (t.2.length / 2)).map (·.1)).headD [], zbj (nw n S) (t.2.drop (t.2.length / 2))), us S (nw n S) true)
 | _ + 1, t => if t.2.2.length ≤ s.fan then (t, none, S) else
  (zat t.1 (t.2.1.take (t.2.2.length / 2 - 1)) (t.2.2.take (t.2.2.length / 2)), some (t.2.1.getD (t.2.2.length / 2 - 1) [], zat (nw n S) (t.2.1.drop (t.2.2.length / 2)) (t.2.2.drop (t.2.2.length / 2))), us S (nw n S) true)
structure zkb (s : Sh) {h : Nat} (t : T h) (es : E) (r : Res h) : Prop where
 page : pg r.1 = pg t
 none : r.2.1 = none → ents r.1 = es ∧ Ord r.1 ∧ Wd s r.1 ∧ sz r.1 ≤ mx s h ∧ Below s r.1
 some : ∀ k d, r.2.1 = some (k, d) → ents r.1 ++ ents d = es ∧ Ord r.1 ∧ Ord d ∧ Wd s r.1 ∧ Wd s d ∧ k.length = s.kw ∧ ze6 (ents r.1) k ∧ zgn (ents d) k ∧ mx s h / 2 ≤ sz r.1 ∧ sz r.1 ≤ mx s h ∧ mx s h / 2 ≤ sz d ∧ sz d ≤ mx s h ∧ Below s r.1 ∧ Below s d
theorem Es.take {e : E} (h : Es e) (k : Nat) : Es (e.take k) := by unfold Es at *; rw [eF]; exact dB (eZ _ _) h
theorem Es.drop {e : E} (h : Es e) (k : Nat) : Es (e.drop k) := by unfold Es at *; rw [dU]; exact dB (eX _ _) h
theorem Sep.cut {ks : List K} {es : List E} (hk : Ks ks) (h : Sep ks es) {m : Nat} (h0 : 0 < m) (hm : m < es.length) : Sep (ks.take (m - 1)) (es.take m) ∧ Sep (ks.drop m) (es.drop m) := by
 obtain ⟨p1, p2⟩ := h.part hk
 have hl := h.len
 refine ⟨Sep.of (by rw [aO, aO]; omega) (fun i hi hj => ?_) fun i j hi hj hij => ?_, Sep.of (by rw [aU, aU]; omega) (fun i hi hj => ?_) fun i j hi hj hij => ?_⟩
 ·rw [dO, dO]
  rw [aO] at hi hj
  exact p1 i i oQ oQ (aX _)
 ·rw [dO, dO]
  rw [aO] at hi hj
  exact p2 i j oQ oQ hij
 ·rw [dH, dH]
  rw [aU] at hi hj
  exact p1 (m + i) (m + i) oQ oQ (aX _)
 ·rw [dH, dH]
  rw [aU] at hi hj
  exact p2 (m + i) (m + j) oQ oQ oQ
theorem zto {a m : Nat} (h : m < a) : m / 2 ≤ a / 2 ∧ m / 2 ≤ a - a / 2 := oQ
theorem ztn {a m : Nat} (h : a ≤ m + m / 2) (h2 : 1 ≤ m) : a / 2 ≤ m ∧ a - a / 2 ≤ m := oQ
theorem zj7 {α β : Type} (l : List α) (f : α → List β) (k : Nat) : (l.take k).flatMap f ++ (l.drop k).flatMap f = l.flatMap f := by
 rw [← bB, bE]
theorem zm4 (s : Sh) (n : Nat) (S : Nat → Bool) (p : Nat) (es : E) : zb8 s n S (zbj p es) = if es.length ≤ s.cap then (zbj p es, none, S) else
  (zbj p (es.take (es.length / 2)), some (((es.drop (es.length / 2)).map (·.1)).headD [], zbj (nw n S) (es.drop (es.length / 2))), us S (nw n S) true) := rfl
theorem zm5 (s : Sh) (n : Nat) (S : Nat → Bool) (p : Nat) (ks : List K) {h : Nat} (kids : List (T h)) : zb8 s n S (zat p ks kids) = if kids.length ≤ s.fan then (zat p ks kids, none, S) else
  (zat p (ks.take (kids.length / 2 - 1)) (kids.take (kids.length / 2)), some (ks.getD (kids.length / 2 - 1) [], zat (nw n S) (ks.drop (kids.length / 2)) (kids.drop (kids.length / 2))), us S (nw n S) true) := rfl
theorem zoe (s : Sh) (n : Nat) (S : Nat → Bool) : ∀ {h : Nat} (t : T h), Ord t → Wd s t → Below s t → sz t ≤ mx s h + mx s h / 2 → 2 ≤ mx s h → zkb s t (ents t) (zb8 s n S t)
 | 0, (p, es), hO, hW, hB, hm, h2 => by
  have hm : es.length ≤ s.cap + s.cap / 2 := hm
  have h2 : 2 ≤ s.cap := h2
  change zkb s (zbj p es) (ents (zbj p es)) (zb8 s n S (zbj p es))
  rw [zm4]
  by_cases hc : es.length ≤ s.cap
  ·rw [if_pos hc]
   exact ⟨rfl, fun _ => ⟨rfl, hO, hW, hc, trivial⟩, fun k d h => (nomatch h)⟩
  ·rw [if_neg hc]
   refine ⟨rfl, fun h => (nomatch h), fun k d hkd => ?_⟩
   obtain ⟨rfl, rfl⟩ := jB (cJ hkd)
   obtain ⟨l1, l2⟩ := zto (a := es.length) (m := s.cap) oQ
   obtain ⟨l3, l4⟩ := ztn hm oQ
   have hk : es.length / 2 < es.length := oQ
   have hO' : Es es := hO
   have hd : ((es.drop (es.length / 2)).map (·.1)).headD [] = es[es.length / 2].1 := by rw [bY hk]; rfl
   have hlt : ∀ i (hi : i < es.length), i < es.length / 2 → kl es[i].1 es[es.length / 2].1 := fun i hi hik => by
    have := cM.1 hO' i (es.length / 2) (by rw [aG]; exact hi) (by rw [aG]; exact hk) hik
    simpa using this
   have hge : ∀ i (hi : i < es.length), es.length / 2 ≤ i → ¬ kl es[i].1 es[es.length / 2].1 := fun i hi hik => by
    rcases gK (es.length / 2) i with h | h
    ·have := cM.1 hO' (es.length / 2) i (by rw [aG]; exact hk) (by rw [aG]; exact hi) h
     exact zey (by simpa using this)
    ·obtain rfl : i = es.length / 2 := oQ
     exact zdw _
   show es.take (es.length / 2) ++ es.drop (es.length / 2) = es ∧ Es (es.take (es.length / 2)) ∧ Es (es.drop (es.length / 2)) ∧ _ ∧ _ ∧ (((es.drop (es.length / 2)).map (·.1)).headD []).length = s.kw ∧ ze6 (es.take (es.length / 2)) (((es.drop (es.length / 2)).map (·.1)).headD []) ∧ zgn (es.drop (es.length / 2)) (((es.drop (es.length / 2)).map (·.1)).headD []) ∧ s.cap / 2 ≤ (es.take (es.length / 2)).length ∧ (es.take (es.length / 2)).length ≤ s.cap ∧ s.cap / 2 ≤ (es.drop (es.length / 2)).length ∧ (es.drop (es.length / 2)).length ≤ s.cap ∧ True ∧ True
   rw [hd]
   refine ⟨bE _ _, hO'.take _, hO'.drop _, fun q hq => hW q (bX hq), fun q hq => hW q (bZ hq), (hW _ (aR hk)).1, fun q hq => ?_, fun q hq => ?_, ?_, ?_, ?_, ?_, trivial, trivial⟩
   ·obtain ⟨i, hi, rfl⟩ := bI hq
    rw [aO] at hi
    rw [dO]
    exact hlt i oQ oQ
   ·obtain ⟨i, hi, rfl⟩ := bI hq
    rw [aU] at hi
    rw [dH]
    exact hge _ oQ oQ
   ·rw [aO]; omega
   ·rw [aO]; omega
   ·rw [aU]; omega
   ·rw [aU]; omega
 | h + 1, (p, ks, kids), hO, hW, hB, hm, h2 => by
  have hm : kids.length ≤ s.fan + s.fan / 2 := hm
  have h2 : 2 ≤ s.fan := h2
  obtain ⟨o1, o2, o3⟩ : Ks ks ∧ Sep ks (kids.map ents) ∧ ∀ x ∈ kids, Ord x := hO
  obtain ⟨w1, w2⟩ : (∀ k ∈ ks, k.length = s.kw) ∧ ∀ x ∈ kids, Wd s x := hW
  have hB : ∀ x ∈ kids, mx s h / 2 ≤ sz x ∧ sz x ≤ mx s h ∧ Below s x := hB
  have hl := o2.len
  rw [aG] at hl
  change zkb s (zat p ks kids) (ents (zat p ks kids)) (zb8 s n S (zat p ks kids))
  rw [zm5]
  by_cases hc : kids.length ≤ s.fan
  ·rw [if_pos hc]
   exact ⟨rfl, fun _ => ⟨rfl, ⟨o1, o2, o3⟩, ⟨w1, w2⟩, hc, hB⟩, fun k d h => (nomatch h)⟩
  ·rw [if_neg hc]
   refine ⟨rfl, fun h => (nomatch h), fun k d hkd => ?_⟩
   obtain ⟨rfl, rfl⟩ := jB (cJ hkd)
   obtain ⟨l1, l2⟩ := zto (a := kids.length) (m := s.fan) oQ
   obtain ⟨l3, l4⟩ := ztn hm oQ
   have hk0 : 0 < kids.length / 2 := oQ
   have hk : kids.length / 2 < kids.length := oQ
   have hkk : kids.length / 2 - 1 < ks.length := oQ
   obtain ⟨p1, p2⟩ := o2.part o1
   obtain ⟨c1, c2⟩ := o2.cut o1 hk0 (by rw [aG]; exact hk)
   rw [← eF] at c1
   rw [← dU] at c2
   have hd : ks.getD (kids.length / 2 - 1) [] = ks[kids.length / 2 - 1] := by rw [aC, aB hkk]; rfl
   show (kids.take (kids.length / 2)).flatMap ents ++ (kids.drop (kids.length / 2)).flatMap ents = kids.flatMap ents ∧ (Ks (ks.take (kids.length / 2 - 1)) ∧ Sep (ks.take (kids.length / 2 - 1)) ((kids.take (kids.length / 2)).map ents) ∧ ∀ x ∈ kids.take (kids.length / 2), Ord x) ∧ (Ks (ks.drop (kids.length / 2)) ∧ Sep (ks.drop (kids.length / 2)) ((kids.drop (kids.length / 2)).map ents) ∧ ∀ x ∈ kids.drop (kids.length / 2), Ord x) ∧ ((∀ k ∈ ks.take (kids.length / 2 - 1), k.length = s.kw) ∧ ∀ x ∈ kids.take (kids.length / 2), Wd s x) ∧ ((∀ k ∈ ks.drop (kids.length / 2), k.length = s.kw) ∧ ∀ x ∈ kids.drop (kids.length / 2), Wd s x) ∧ (ks.getD (kids.length / 2 - 1) []).length = s.kw ∧ ze6 ((kids.take (kids.length / 2)).flatMap ents) (ks.getD (kids.length / 2 - 1) []) ∧ zgn ((kids.drop (kids.length / 2)).flatMap ents) (ks.getD (kids.length / 2 - 1) []) ∧ s.fan / 2 ≤ (kids.take (kids.length / 2)).length ∧ (kids.take (kids.length / 2)).length ≤ s.fan ∧ s.fan / 2 ≤ (kids.drop (kids.length / 2)).length ∧ (kids.drop (kids.length / 2)).length ≤ s.fan ∧ (∀ x ∈ kids.take (kids.length / 2), mx s h / 2 ≤ sz x ∧ sz x ≤ mx s h ∧ Below s x) ∧ ∀ x ∈ kids.drop (kids.length / 2), mx s h / 2 ≤ sz x ∧ sz x ≤ mx s h ∧ Below s x
   rw [hd]
   refine ⟨zj7 _ _ _, ⟨dB (eZ _ _) o1, c1, fun x hx => o3 x (bX hx)⟩, ⟨dB (eX _ _) o1, c2, fun x hx => o3 x (bZ hx)⟩, ⟨fun k hk => w1 k (bX hk), fun x hx => w2 x (bX hx)⟩, ⟨fun k hk => w1 k (bZ hk), fun x hx => w2 x (bZ hx)⟩, w1 _ (aR hkk), fun q hq => ?_, fun q hq => ?_, ?_, ?_, ?_, ?_, fun x hx => hB x (bX hx), fun x hx => hB x (bZ hx)⟩
   ·obtain ⟨x, hx, hq⟩ := cB.1 hq
    obtain ⟨i, hi, rfl⟩ := bI hx
    rw [aO] at hi
    rw [dO] at hq
    have := p1 (kids.length / 2 - 1) i hkk (by rw [aG]; omega) oQ
    rw [cW] at this
    exact this q hq
   ·obtain ⟨x, hx, hq⟩ := cB.1 hq
    obtain ⟨i, hi, rfl⟩ := bI hx
    rw [aU] at hi
    rw [dH] at hq
    have := p2 (kids.length / 2 - 1) (kids.length / 2 + i) hkk (by rw [aG]; omega) oQ
    rw [cW] at this
    exact this q hq
   ·rw [aO]; omega
   ·rw [aO]; omega
   ·rw [aU]; omega
   ·rw [aU]; omega
structure zxj (n : Nat) (S : Nat → Bool) (L : List Nat) {h : Nat} (r : Res h) : Prop where
 none : r.2.1 = none → pgs r.1 = L ∧ r.2.2 = S
 some : ∀ k d, r.2.1 = some (k, d) → (pgs r.1 ++ pgs d).Perm (nw n S :: L) ∧ pg d = nw n S ∧ r.2.2 = us S (nw n S) true
theorem qba (s : Sh) (n : Nat) (S : Nat → Bool) : ∀ {h : Nat} (t : T h), zxj n S (pgs t) (zb8 s n S t)
 | 0, (p, es) => by
  change zxj n S (pgs (zbj p es)) (zb8 s n S (zbj p es))
  rw [zm4]
  split
  ·exact ⟨fun _ => ⟨rfl, rfl⟩, fun k d h => (nomatch h)⟩
  ·refine ⟨fun h => (nomatch h), fun k d hkd => ?_⟩
   obtain ⟨rfl, rfl⟩ := jB (cJ hkd)
   exact ⟨.swap _ _ _, rfl, rfl⟩
 | h + 1, (p, ks, kids) => by
  change zxj n S (pgs (zat p ks kids)) (zb8 s n S (zat p ks kids))
  rw [zm5]
  split
  ·exact ⟨fun _ => ⟨rfl, rfl⟩, fun k d h => (nomatch h)⟩
  ·refine ⟨fun h => (nomatch h), fun k d hkd => ?_⟩
   obtain ⟨rfl, rfl⟩ := jB (cJ hkd)
   refine ⟨?_, rfl, rfl⟩
   show ((p :: (kids.take (kids.length / 2)).flatMap pgs) ++ (nw n S :: (kids.drop (kids.length / 2)).flatMap pgs)).Perm (nw n S :: p :: kids.flatMap pgs)
   rw [← zj7 kids pgs (kids.length / 2)]
   refine bJ.trans (.cons _ ?_)
   rfl
end Go.Eng.Tr
