/- Strings and slices: slicing, '==', '+'; strings in memory. Own work; no condition. -/
/- Rows that a function owns and appends to; what slices read. Own work over the guide's laws; no condition. -/
/- Short ways for the calculus: values and side conditions by instances. Own work; no condition. -/
/- Rows of many cells an element: loads, stores, copies, makes; memory that is read alone (ghost heaps). Own work over the guide's laws; no condition. -/
/- strings.Builder: Grow of a fresh one, WriteString, String. -/
/- Items by their places; calls of function values that take items over. Own work; no condition. -/
import Derived.Test.YtdkonngkbbgcgaaGreatDoorGa
import Derived.Laws.Strings2
import Derived.Laws.Strings3
import Derived.Laws.OwnMore
import Derived.Laws.Externs
import Derived.Lib.Bytealg
import Derived.Laws.CopyRow
import Derived.Laws.Pointers
import Derived.Lib.Builder
import Derived.Lib.MakeNoZero
import Derived.Lib.UnsafeStr
import Derived.Lib.AppendStr
namespace Go.Eng
open Go.RowKit
variable {P : Program} {Q : Exit → Act → World → Prop} {N : Fm} {l : Slots} {H : World → Prop} {ops : Array Oper} {rest : List Oper} {w0 : World} {F : Nat → Prop} {m : List Item} {ty : TypeId} {pos : String} {after : Array Edge} {g : Option (Nat × Bool)} {d : Nat}
/-! ### slicing of strings -/
theorem v_slstrF {T : TypeId} {x y : Operand} {s : ByteArray} {k : IntKind} {i : Nat} (hx : evO l x = some (.string s)) (hy : evO l y = some (.int k i)) (hT : P.underlying T = some .string) (hi : i ≤ s.size) : OV P (.slice T x (some y) none none) ty l H (.string (s.extract i s.size)) := ov fun _ _ _ w _ => by
  have h := run_slice_string_l (P := P) w T s hT k i (by omega) (by omega)
  simp only [execOp, ev_of hx, Option.map_some, Option.map_none, ev_of hy, Sem.run_bind, run_sliceAt_string w T _ _ _ _ hT, h, Int.toNat_natCast]
  rfl
theorem v_slstrT {T : TypeId} {x y : Operand} {s : ByteArray} {k : IntKind} {i : Nat} (hx : evO l x = some (.string s)) (hy : evO l y = some (.int k i)) (hT : P.underlying T = some .string) (hi : i ≤ s.size) : OV P (.slice T x none (some y) none) ty l H (.string (s.extract 0 i)) := ov fun _ _ _ w _ => by
  have h := run_slice_string_h (P := P) w T s hT k i (by omega) (by omega)
  simp only [execOp, ev_of hx, Option.map_some, Option.map_none, ev_of hy, Sem.run_bind, run_sliceAt_string w T _ _ _ _ hT, h, Int.toNat_natCast]
  rfl
theorem v_slstr {T : TypeId} {x y z : Operand} {s : ByteArray} {k k' : IntKind} {i j : Nat} (hx : evO l x = some (.string s)) (hy : evO l y = some (.int k i)) (hz : evO l z = some (.int k' j)) (hT : P.underlying T = some .string) (hi : i ≤ j) (hj : j ≤ s.size) : OV P (.slice T x (some y) (some z) none) ty l H (.string (s.extract i j)) := ov fun _ _ _ w _ => by
  have h := run_slice_string (P := P) w T s k k' i j hT (by omega) (by omega) (by omega)
  simp only [execOp, ev_of hx, Option.map_some, Option.map_none, ev_of hy, ev_of hz, Sem.run_bind, run_sliceAt_string w T _ _ _ _ hT, h, Int.toNat_natCast]
  rfl
theorem v_stratC {T : TypeId} {x y : Operand} {s : ByteArray} {k : IntKind} {i : Nat} (hx : evO l x = some (.string s)) (hy : evO l y = some (.int k (@OfNat.ofNat Int i _))) (hT : P.underlying T = some .string) (hi : (@OfNat.ofNat Nat i _) < s.size) : OV P (.index T x y) ty l H (.int .u8 (s[(@OfNat.ofNat Nat i _)].toNat : Nat)) := v_strat hx hy hT hi
theorem v_slstrFC {T : TypeId} {x y : Operand} {s : ByteArray} {k : IntKind} {i : Nat} (hx : evO l x = some (.string s)) (hy : evO l y = some (.int k (@OfNat.ofNat Int i _))) (hT : P.underlying T = some .string) (hi : (@OfNat.ofNat Nat i _) ≤ s.size) : OV P (.slice T x (some y) none none) ty l H (.string (s.extract (@OfNat.ofNat Nat i _) s.size)) := v_slstrF hx hy hT hi
theorem v_slstrTC {T : TypeId} {x y : Operand} {s : ByteArray} {k : IntKind} {i : Nat} (hx : evO l x = some (.string s)) (hy : evO l y = some (.int k (@OfNat.ofNat Int i _))) (hT : P.underlying T = some .string) (hi : (@OfNat.ofNat Nat i _) ≤ s.size) : OV P (.slice T x none (some y) none) ty l H (.string (s.extract 0 (@OfNat.ofNat Nat i _))) := v_slstrT hx hy hT hi
/-! ### '==' and '!=' of strings -/
theorem ba_ext {a b : ByteArray} (h : a.data.toList = b.data.toList) : a = b := by
  cases a; cases b; congr; exact Array.toList_inj.1 h
theorem bytes_beq (a b : ByteArray) : (a.toList == b.toList) = decide (a = b) := by
  rw [ByteArray.toList_eq, ByteArray.toList_eq, Bool.eq_iff_iff]
  simp only [beq_iff_eq, decide_eq_true_eq]
  exact ⟨ba_ext, fun h => by rw [h]⟩
/-- Two strings, are they one? -/
def seq (a b : ByteArray) : Bool := decide (a = b)
theorem seq_eq (a b : ByteArray) : decide (a = b) = seq a b := rfl
theorem seq_iff {a b : ByteArray} : seq a b = true ↔ a = b := by simp [seq]
theorem seq_list (a b : ByteArray) : seq a b = (a.data.toList == b.data.toList) := by
  rw [← seq_eq, ← bytes_beq, ByteArray.toList_eq, ByteArray.toList_eq]
theorem v_eqs {T U : TypeId} {x y : Operand} {a b : ByteArray} (hx : evO l x = some (.string a)) (hy : evO l y = some (.string b)) : OV P (.binOp .eql T x y U) ty l H (.bool (seq a b)) := by
  rw [← seq_eq, ← bytes_beq]
  exact v_bin hx hy fun _ => rfl
theorem v_nes {T U : TypeId} {x y : Operand} {a b : ByteArray} (hx : evO l x = some (.string a)) (hy : evO l y = some (.string b)) : OV P (.binOp .neq T x y U) ty l H (.bool (!seq a b)) := by
  rw [← seq_eq, ← bytes_beq]
  exact v_bin hx hy fun _ => rfl
theorem v_adds {T U : TypeId} {x y : Operand} {a b : ByteArray} (hx : evO l x = some (.string a)) (hy : evO l y = some (.string b)) (h : a.size + b.size < 9223372036854775808) : OV P (.binOp .add T x y U) ty l H (.string (a ++ b)) :=
  v_bin hx hy fun w => by
    have h' : ¬ (((a.size + b.size : Nat) : Int) > IntKind.i64.max) := by simp [IntKind.max, IntKind.bits, IntKind.signed]; omega
    show ((binOp .add T (.string a) (.string b)).run P w) = _
    simp only [binOp, Op.stringOp, if_neg h']
    rfl
/-! ### slicing of slices -/
/-- The address of what begins k cells on; of a slice with no room it stays. -/
def slAt (a : Option Addr) (room : Bool) (k : Nat) : Option Addr := if room then a else a.map (·.add k)
theorem v_slF {T e : TypeId} {x y : Operand} {a : Option Addr} {n c sz : Nat} {k : IntKind} {i : Nat} (hx : evO l x = some (.slice a n c)) (hy : evO l y = some (.int k i)) (hT : sliE P T = some e) (he : cellsT P e = some sz) (hi : i ≤ n) : OV P (.slice T x (some y) none none) ty l H (.slice (slAt a (decide (c = i)) (i * sz)) (n - i) (c - i)) := ov fun _ _ _ w _ => by
  have hu := sliE_spec hT
  have hu' : P.underlying T = some (.slice (P.elem T)) := by rw [hu]; simp [Program.elem, hu]
  have he' : P.elem T = e := by simp [Program.elem, hu]
  obtain ⟨q, hq, hqs⟩ := cellsT_spec he
  have h := run_slice_l (P := P) w T a n c hu' k i (by omega) (by omega)
  have hz : (sizeOf (P.elem T)).run P w = .ok sz w := by rw [he']; simp [sizeOf, typeInfo, hq, hqs]
  simp only [execOp, ev_of hx, Option.map_some, Option.map_none, ev_of hy, Sem.run_bind, run_sliceAt_slice w T _ _ _ _ hu', h, hz, Result.andThen_ok, Int.toNat_natCast, sliced, slAt]
  simp [Sem.run_pure]
theorem v_slFC {T e : TypeId} {x y : Operand} {a : Option Addr} {n c sz : Nat} {k : IntKind} {i : Nat} (hx : evO l x = some (.slice a n c)) (hy : evO l y = some (.int k (@OfNat.ofNat Int i _))) (hT : sliE P T = some e) (he : cellsT P e = some sz) (hi : (@OfNat.ofNat Nat i _) ≤ n) : OV P (.slice T x (some y) none none) ty l H (.slice (slAt a (decide (c = (@OfNat.ofNat Nat i _))) ((@OfNat.ofNat Nat i _) * sz)) (n - (@OfNat.ofNat Nat i _)) (c - (@OfNat.ofNat Nat i _))) := v_slF hx hy hT he hi
/-! ### texts as lists of bytes -/
theorem drop_extract (s : ByteArray) (i : Nat) : (s.extract i s.size).data.toList = s.data.toList.drop i := by
  simp [ByteArray.data_extract, Array.toList_extract, List.take_of_length_le]
theorem ba_size (a : ByteArray) : a.data.toList.length = a.size := by simp
attribute [irreducible] seq
end Go.Eng

namespace Go.Eng
open Go.RowKit
variable {P : Program} {Q : Exit → Act → World → Prop} {N : Fm} {l : Slots} {H : World → Prop} {ops : Array Oper} {rest : List Oper} {w0 : World} {F : Nat → Prop} {m : List Item} {ty : TypeId} {pos : String} {after : Array Edge} {g : Option (Nat × Bool)} {d : Nat}
/-- A slice value: nil, or the whole of a block, with its room. -/
def slV : Option (Nat × Nat) → Nat → Value
  | none, _ => .slice none 0 0
  | some (b, c), n => .slice (some ⟨b, 0, none⟩) n c
/-- n elements of sz cells each. -/
def own (e : TypeId) (sz : Nat) (o : Option (Nat × Nat)) (n : Nat) (xs : List Value) : Item :=
  ⟨fun k => ∃ c, o = some (k, c), fun w => xs.length = n * sz ∧ (match o with
    | none => n = 0
    | some (b, c) => n ≤ c ∧ c ≤ maxLen ∧ ∃ cur : Array Value, w.heap[b]? = some (.cells cur e (0, 0)) ∧ cur.size = c * sz ∧ cur.toList.take (n * sz) = xs)⟩
theorem own_stable (ro : Nat → Prop) (e : TypeId) (sz : Nat) (o : Option (Nat × Nat)) (n : Nat) (xs : List Value) : (own e sz o n xs).Stable ro := by
  intro w w' h hp
  refine ⟨hp.1, ?_⟩
  match o, hp with
  | none, hp => exact hp.2
  | some (b, c), hp =>
    obtain ⟨h1, h2, cur, h3, h4⟩ := hp.2
    exact ⟨h1, h2, cur, by rw [h b (.inr ⟨c, rfl⟩), h3], h4⟩
theorem own_row {w : World} {e : TypeId} {sz n : Nat} {o : Option (Nat × Nat)} {xs : List Value} (h : (own e sz o n xs).prop w) : w.ownsRow 0 e sz (slV o n) n xs := by
  refine ⟨h.1, ?_⟩
  match o, h with
  | none, h => exact .inl ⟨rfl, h.2⟩
  | some (b, c), h =>
    obtain ⟨h1, h2, cur, h3, h4, h5⟩ := h.2
    exact .inr ⟨b, c, cur, rfl, Nat.zero_le _, h3, h1, h2, h4, h5⟩
/-- What a slice reads. -/
def Rd (w : World) (a : Option Addr) (xs : List Value) : Prop := xs = [] ∨ ∃ b off, a = some ⟨b, off, none⟩ ∧ ∀ (j : Nat) (u : Value), xs[j]? = some u → w.cell? ⟨b, off + j, none⟩ = some u
theorem add_at (b off j : Nat) : (⟨b, off, none⟩ : Addr).add j = ⟨b, off + j, none⟩ := by unfold Addr.add; split <;> simp_all
theorem own_rd {w : World} {e : TypeId} {sz n b c : Nat} {xs : List Value} (h : (own e sz (some (b, c)) n xs).prop w) : ∀ (j : Nat) (u : Value), xs[j]? = some u → w.cell? ⟨b, j, none⟩ = some u := by
  intro j u hu
  have := (own_row h).cells (g := b) rfl j u hu
  rwa [add_at, Nat.zero_add] at this
theorem Rd.keep {w : World} {a : Option Addr} {xs : List Value} (h : Rd w0 a xs) (hw : Hp w0 none' m w) : Rd w a xs := by
  rcases h with h | ⟨b, off, h1, h2⟩
  · exact .inl h
  · exact .inr ⟨b, off, h1, fun j u hu => hw.old (fun h => h) (h2 j u hu)⟩
theorem Rd.fr {w : World} {a : Option Addr} {xs : List Value} (h : Rd w0 a xs) (hw : Fr none' w0 w) : Rd w a xs := by
  rcases h with h | ⟨b, off, h1, h2⟩
  · exact .inl h
  · exact .inr ⟨b, off, h1, fun j u hu => by
      have hv := h2 j u hu
      rw [← hv]
      exact World.cell?_of_block (w := w0) (hw.block b (World.block_lt_of_cell? w0 _ hv) (fun h => h))⟩
def slA : Option (Nat × Nat) → Option Addr
  | none => none
  | some (b, _) => some ⟨b, 0, none⟩
def slC : Option (Nat × Nat) → Nat
  | none => 0
  | some (_, c) => c
theorem own_Rd {w : World} {e : TypeId} {sz n : Nat} {o : Option (Nat × Nat)} {xs : List Value} (h : (own e sz o n xs).prop w) : Rd w (slA o) xs := by
  match o, h with
  | none, h => exact .inl (List.eq_nil_of_length_eq_zero (by have h1 := h.1; have h2 : n = 0 := h.2; simpa [h2] using h1))
  | some (b, c), h => exact .inr ⟨b, 0, rfl, fun j u hu => by rw [Nat.zero_add]; exact own_rd h j u hu⟩
theorem own_val {w : World} {e : TypeId} {sz n : Nat} {o : Option (Nat × Nat)} {xs : List Value} (h : (own e sz o n xs).prop w) : slV o n = .slice (slA o) n (slC o) ∧ n ≤ slC o := by
  match o, h with
  | none, h => have h2 : n = 0 := h.2; subst h2; exact ⟨rfl, Nat.le_refl _⟩
  | some (b, c), h => exact ⟨rfl, h.2.1⟩
/-- The item of what is new. -/
theorem its_own {w w' : World} {e : TypeId} {sz n : Nat} {o o' : Option (Nat × Nat)} {xs : List Value} (hp : (own e sz o' n xs).prop w') (hf : Fr (fun k => ∃ c, o = some (k, c)) w w') (hn : ∀ b c, o' = some (b, c) → w.heap.size ≤ b ∨ ∃ c', o = some (b, c')) : Its (fun k => ∃ c, o = some (k, c)) w [own e sz o' n xs] w' := by
  refine ⟨hf, fun it hm => ?_, .cons (fun _ h => by cases h) .nil⟩
  obtain rfl : it = own e sz o' n xs := by simpa using hm
  refine ⟨hp, own_stable _ _ _ _ _ _, fun k ⟨c, hk⟩ => ⟨?_, fun hlt => ?_⟩⟩
  · subst hk
    obtain ⟨-, -, cur, h3, -⟩ := hp.2
    exact (Array.getElem?_eq_some_iff.1 h3).1
  · rcases hn k c hk with h | h
    · omega
    · exact h
theorem fr_grow {F : Nat → Prop} {w w' : World} (h1 : w'.os = w.os) (h2 : w'.tape = w.tape) (h3 : w'.output = w.output) (h4 : w.heap.size ≤ w'.heap.size) (h5 : ∀ k, k < w.heap.size → ¬ F k → w'.heap[k]? = w.heap[k]?) : Fr F w w' := ⟨h1, h2, h3, h4, h5⟩
theorem app_own {t ty' e : TypeId} {i : TypeInfo} {z : Value} (ht : P.underlying t = some (.slice e)) (hi : P.info? e = some i) (hz : i.zero = some z) (hzs : z.cells.size = i.size) (_hsz : 0 < i.size)
    {w : World} {o : Option (Nat × Nat)} {n : Nat} {xs : List Value} (hown : (own e i.size o n xs).prop w)
    {a : Addr} {k c : Nat} {news : List Value} (hl : news.length = k * i.size) (hnews : ∀ (j : Nat) u, news[j]? = some u → w.cell? (a.add j) = some u) (h1 : ∀ u ∈ news, u.oneCell' = true)
    (h63 : n + k ≤ maxLen) (hbytes : (n + k) * i.bytes ≤ 140737488355328) :
    ∃ o' w', (Builtin.append_ #[t, t] ty' #[slV o n, .slice (some a) k c]).run P w = .ok (slV o' (n + k)) w' ∧ Its (fun k => ∃ c, o = some (k, c)) w [own e i.size o' (n + k) (xs ++ news)] w' := by
  have hrow := own_row hown
  have hlen : (xs ++ news).length = (n + k) * i.size := by rw [List.length_append, hrow.1, hl, Nat.add_mul]
  have grown : ∀ (old : Nat), old < n + k →
      Its (fun k => ∃ c, o = some (k, c)) w [own e i.size (some (w.heap.size, grownCap w (n + k) old e)) (n + k) (xs ++ news)] (w.drew.alloc (.cells (xs.toArray ++ news.toArray ++ Builtin.zeroCells z.cells (grownCap w (n + k) old e - (n + k))) e)) := by
    intro old ho
    have hge := grownCap_ge w (n + k) old e
    refine its_own ⟨hlen, hge, grownCap_le_maxLen w (n + k) old e h63, _, heap_alloc_new w.drew _, ?_, ?_⟩ (fr_grow rfl rfl rfl (by simp) fun j hj _ => Below.heap_alloc w.drew _ j hj) (fun b c' h => .inl (by cases h; exact Nat.le_refl _))
    · simp only [Array.size_append, List.size_toArray, size_zeroCells, hzs, hrow.1, hl, ← Nat.add_mul]
      congr 1
      omega
    · simp only [Array.toList_append, List.append_assoc]
      rw [← List.append_assoc, ← hlen]
      exact List.take_left
  by_cases hk : k = 0
  · subst hk
    obtain rfl : news = [] := List.eq_nil_of_length_eq_zero (by simpa using hl)
    match o, hown with
    | none, hown =>
      obtain rfl : n = 0 := hown.2
      refine ⟨none, w, ?_, ?_⟩
      · simp [Builtin.append_, run_underlying ht, sizeOf, typeInfo, hi, Builtin.lenOf, Builtin.firstCells, slV, loadCells, loadCellsFrom]
      · rw [List.append_nil]
        exact its_own (o := none) hown (.refl _ _) (fun _ _ h => by cases h)
    | some (b, cap), hown =>
      obtain ⟨h2, h3, cur, h4, h5, h6⟩ := hown.2
      have hr := run_append_room (P := P) w t ty' e i ht hi b n cap cur h4 a 0 c [] (by simp) hnews h1 h2 (by rw [h5]; simpa using Nat.mul_le_mul_right _ h2)
      refine ⟨some (b, cap), _, hr, its_own ⟨by simpa using hown.1, h2, h3, _, setRow_heap w b cur _ e _ h4, ?_, ?_⟩ (fr_grow rfl rfl rfl (by simp) fun j _ hj => setRow_other w b j _ (fun e => hj ⟨cap, by rw [e]⟩)) (fun b' c' h => .inr ⟨c', h⟩)⟩
      · simp [h5]
      · rw [Nat.add_zero, List.append_nil, List.append_nil]
        simp only [h6]
        rw [List.take_left' (by simpa using hown.1)]
  match o, hown with
  | none, hown =>
    obtain rfl : n = 0 := hown.2
    obtain rfl : xs = [] := List.eq_nil_of_length_eq_zero (by simpa using hrow.1)
    have hr := run_append_nil (P := P) w t ty' e i z ht hi hz a k c news hl hnews (by omega) (by simp only [maxLen] at h63; omega) (by have hb := hbytes; simp only [Nat.zero_add] at hb; omega)
    have hgr := grown 0 (by omega)
    simp only [Nat.zero_add, List.nil_append, Array.empty_append] at hgr ⊢
    exact ⟨some (w.heap.size, grownCap w k 0 e), _, hr, hgr⟩
  | some (b, cap), hown =>
    obtain ⟨h2, h3, cur, h4, h5, h6⟩ := hown.2
    by_cases hroom : n + k ≤ cap
    · have hfit : n * i.size + news.length ≤ cur.size := by rw [hl, h5, ← Nat.add_mul]; exact Nat.mul_le_mul_right _ hroom
      have hr := run_append_room (P := P) w t ty' e i ht hi b n cap cur h4 a k c news hl hnews h1 hroom hfit
      refine ⟨some (b, cap), _, hr, its_own ⟨hlen, hroom, h3, _, setRow_heap w b cur _ e _ h4, ?_, ?_⟩ (fr_grow rfl rfl rfl (by simp) fun j _ hj => setRow_other w b j _ (fun e => hj ⟨cap, by rw [e]⟩)) (fun b' c' h => .inr ⟨c', h⟩)⟩
      · simp only [List.size_toArray, List.length_append, List.length_take, List.length_drop, Array.length_toList]
        omega
      · rw [h6, ← hlen]
        exact List.take_left
    · have hr := run_append_grow (P := P) w t ty' e i z ht hi hz ⟨b, 0, none⟩ n cap xs hrow.1 (hrow.cells (g := b) rfl) a k c news hl hnews (by omega) (by simp only [maxLen] at h63; omega) (growslice_fits (by omega) hbytes)
      exact ⟨some (w.heap.size, grownCap w (n + k) cap e), _, hr, grown cap (by omega)⟩
def infoF (P : Program) (e : TypeId) : Option (Nat × Nat × Nat) := match P.info? e with | some ⟨_, _, sz, bt, _, _, _, some z, _, _⟩ => some (sz, bt, z.cells.size) | _ => none
theorem infoF_spec {e : TypeId} {s b k : Nat} (h : infoF P e = some (s, b, k)) : ∃ i z, P.info? e = some i ∧ i.size = s ∧ i.bytes = b ∧ i.zero = some z ∧ z.cells.size = k := by
  unfold infoF at h
  split at h
  · rename_i hi
    simp only [Option.some.injEq, Prod.mk.injEq] at h
    obtain ⟨h1, h2, h3⟩ := h
    exact ⟨_, _, hi, h1, h2, rfl, h3⟩
  · cases h
theorem o_append {T T' e : TypeId} {x y : Operand} {o : Option (Nat × Nat)} {a : Addr} {n k c sz b : Nat} {xs news : List Value} (hok : okOp N l (.call ⟨.builtin .append, #[x, y], #[T, T]⟩) d = true) (hx : evO l x = some (slV o n)) (hy : evO l y = some (.slice (some a) k c))
    (hT : sliE P T = some e) (hi : infoF P e = some (sz, b, sz)) (hsz : Nat.ble 1 sz = true) (hl : news.length = k * sz) (h1 : oneAll news = true) (hn : (n + k) * (b + 1) ≤ 140737488355328)
    (hnews : ∀ w, Hp w0 F (own e sz o n xs :: m) w → ∀ (j : Nat) (v : Value), news[j]? = some v → w.cell? (a.add j) = some v) :
    HO P ⟨some d, .call ⟨.builtin .append, #[x, y], #[T, T]⟩, T', pos, after, g⟩ Q N l (Hp w0 F (own e sz o n xs :: m)) (α := Option (Nat × Nat)) (fun o' => (d, slV o' (n + k)) :: l) (fun o' => Hp w0 F (own e sz o' (n + k) (xs ++ news) :: m)) :=
  o_mem (val := fun o' => slV o' (n + k)) hok (fun w hw => by
    obtain ⟨i, z, h1', h2, h3, h4, h5⟩ := infoF_spec hi
    subst h2
    subst h3
    have hle : (n + k) * i.bytes + (n + k) ≤ 140737488355328 := by rwa [Nat.mul_add, Nat.mul_one] at hn
    obtain ⟨o', w', hr, hits⟩ := app_own (P := P) (ty' := T') (c := c) (sliE_spec hT) h1' h4 h5 (Nat.le_of_ble_eq_true hsz) (hw.item (own e i.size o n xs) (by simp)).1 hl (hnews w hw) (oneAll_iff.1 h1) (by simp only [maxLen]; omega) (by omega)
    refine ⟨o', w', ?_, Hp.call (m := [own e i.size o n xs]) hw hits (fun k' _ hk => ⟨own e i.size o n xs, by simp, hk⟩)⟩
    simp only [execOp, resolve, invoke, builtin]
    simp [ev_of hx, ev_of hy, hr])
/-- The parts of a slice literal. -/
def partsS (sz : Nat) (l : Slots) : List (Nat × Operand) → Option (List (Nat × Nat × Value))
  | [] => some []
  | (i, x) :: r => match evO l x, partsS sz l r with
    | some v, some L => some ((i * sz, sz, v) :: L)
    | _, _ => none
theorem partsS_spec {sz : Nat} : ∀ {ps : List (Nat × Operand)} {L : List (Nat × Nat × Value)}, partsS sz l ps = some L → ps.length = L.length ∧ ∀ (j : Nat) p q, (ps.map fun p => (p.1, ev l p.2))[j]? = some p → L[j]? = some q → (p.1 * sz, sz) = (q.1, q.2.1) ∧ p.2 = q.2.2
  | [], L, h => by simp only [partsS, Option.some.injEq] at h; subst h; simp
  | (i, x) :: r, L, h => by
    simp only [partsS] at h
    split at h
    · rename_i v L' h2 h3
      simp only [Option.some.injEq] at h
      subst h
      obtain ⟨a, b⟩ := partsS_spec h3
      refine ⟨by simp [a], fun j p q hp hq => ?_⟩
      cases j with
      | zero =>
        simp only [List.map_cons, List.getElem?_cons_zero, Option.some.injEq] at hp hq
        subst hp; subst hq
        exact ⟨rfl, ev_of h2⟩
      | succ j => exact b j p q (by simpa using hp) (by simpa using hq)
    · cases h
theorem buildL_length {n : Nat} : ∀ (L : List (Nat × Nat × Value)) (z : List Value), okParts n L → z.length = n → (buildL z L).length = n
  | [], _, _, h => h
  | p :: r, z, hk, h => by
    obtain ⟨k1, k2⟩ := hk p (by simp)
    exact buildL_length r _ (fun q hq => hk q (by simp [hq])) (by rw [over_length _ _ _ (by simp [k1]; omega)]; exact h)
def zerosL (z : Value) (n : Nat) : List Value := (List.range n).map fun i => z.cells[i % z.cells.size]!
theorem Hp.newOwn {w : World} {e : TypeId} {sz n c : Nat} {xs : List Value} {ob : Obj} (hw : Hp w0 F m w) (h : (own e sz (some (w.heap.size, c)) n xs).prop (w.alloc ob)) : Hp w0 F (own e sz (some (w.heap.size, c)) n xs :: m) (w.alloc ob) := by
  have hits : Its none' w [own e sz (some (w.heap.size, c)) n xs] (w.alloc ob) := by
    refine ⟨⟨rfl, rfl, rfl, by simp, fun k hk _ => Below.heap_alloc w _ k hk⟩, fun it hm => ?_, .cons (fun _ h => by cases h) .nil⟩
    obtain rfl : it = own e sz (some (w.heap.size, c)) n xs := by simpa using hm
    refine ⟨h, own_stable _ _ _ _ _ _, fun k ⟨c', hk⟩ => ?_⟩
    simp only [Option.some.injEq, Prod.mk.injEq] at hk
    obtain ⟨rfl, -⟩ := hk
    exact ⟨by simp, fun h => absurd h (Nat.lt_irrefl _)⟩
  exact Hp.call0 hw hits
theorem o_buildslice {T e : TypeId} {len sz b : Nat} {ps : List (Nat × Operand)} {L : List (Nat × Nat × Value)} {z : Value} (hok : okOp N l (.buildSlice T len ps.toArray) d = true) (hT : sliE P T = some e) (hi : infoE P e = some (sz, b, z)) (hp : partsS sz l ps = some L)
    (hlen : (Nat.ble (len * sz) 1000000 && Nat.ble 1 (len * sz)) = true) (hkb : okPartsB (len * sz) L = true) :
    HO P ⟨some d, .buildSlice T len ps.toArray, ty, pos, after, g⟩ Q N l (Hp w0 F m) (α := { b : Nat // w0.heap.size ≤ b }) (fun c => (d, .slice (some ⟨c.1, 0, none⟩) len len) :: l) (fun c => Hp w0 F (own e sz (some (c.1, len)) len (buildL (zerosL z (len * sz)) L) :: m)) :=
  o_mem (val := fun c : { b : Nat // w0.heap.size ≤ b } => .slice (some ⟨c.1, 0, none⟩) len len) hok (fun w hw => by
    obtain ⟨i, h1, h2, h3, h4⟩ := infoE_spec hi
    subst h2
    simp only [Bool.and_eq_true] at hlen
    have hle := Nat.le_of_ble_eq_true hlen.1
    have hge := Nat.le_of_ble_eq_true hlen.2
    have hk := okPartsB_spec hkb
    obtain ⟨a1, a2⟩ := partsS_spec hp
    have hzl : (zerosL z (len * i.size)).length = len * i.size := by simp [zerosL]
    have hbl := buildL_length L _ hk hzl
    have hfill := fill_run (place := fun j => some (j * i.size, i.size)) L (ps.map fun p => (p.1, ev l p.2)) (zerosL z (len * i.size)).toArray (by simpa using a1) (fun j p q hp hq => by
      obtain ⟨x1, x2⟩ := a2 j p q hp hq
      exact ⟨by rw [x1], x2⟩) (by simpa [hzl] using hk)
    have hps : (ps.toArray.map fun (x : Nat × Operand) => match x with | (i, x) => (i, ev l x)) = (ps.map fun p => (p.1, ev l p.2)).toArray := by simp
    have hz : ((Array.range (len * i.size)).map fun x => z.cells[x % z.cells.size]!) = (zerosL z (len * i.size)).toArray := by
      apply Array.ext'
      simp [zerosL, Array.toList_range]
    have hne : ¬ (len * i.size = 0) := by omega
    have hbig : ¬ (len * i.size > 2 ^ 24) := by omega
    have hlm : len ≤ maxLen := by
      have h5 : len ≤ len * i.size := Nat.le_mul_of_pos_right _ (Nat.pos_of_ne_zero fun h => by rw [h] at hge; simp at hge)
      unfold maxLen; omega
    have htk : (buildL (zerosL z (len * i.size)) L).toArray.toList.take (len * i.size) = buildL (zerosL z (len * i.size)) L := List.take_of_length_le (Nat.le_of_eq hbl)
    have hnew : (own e i.size (some (w.heap.size, len)) len (buildL (zerosL z (len * i.size)) L)).prop (w.alloc (.cells (buildL (zerosL z (len * i.size)) L).toArray e)) :=
      ⟨hbl, Nat.le_refl _, hlm, _, heap_alloc_new w _, by simp [hbl], htk⟩
    refine ⟨⟨w.heap.size, hw.fr.size⟩, w.alloc (.cells (buildL (zerosL z (len * i.size)) L).toArray e), ?_, hw.newOwn hnew⟩
    have hbig' : ¬ (16777216 < len * i.size) := by omega
    simp only [execOp, hps, Instr.buildSlice, Sem.run_bind, run_underlying (sliE_spec hT) w, Result.andThen_ok, sizeOf, typeInfo, zeroValue]
    simp [newRow, h1, h4, hz, hfill, hbig', hne])
/-- An array literal. -/
theorem v_builda {T e : TypeId} {n sz : Nat} {z : Array Value} {ps : List (Nat × Operand)} {L : List (Nat × Nat × Value)} (hT : P.underlying T = some (.array n e)) (he : cellsT P e = some sz) (hz : (P.info? T).bind (·.zero) = some (.agg z)) (hp : partsS sz l ps = some L) (hkb : okPartsB z.size L = true) :
    OV P (.build T ps.toArray) ty l H (.agg (buildL z.toList L).toArray) := ov fun _ _ _ w _ => by
  obtain ⟨q, hq, hqs⟩ := cellsT_spec he
  obtain ⟨a1, a2⟩ := partsS_spec hp
  have hzr : (zeroValue T).run P w = .ok (.agg z) w := by
    cases hi : P.info? T with
    | none => simp [hi] at hz
    | some i =>
      have hz' : i.zero = some (.agg z) := by simpa [hi] using hz
      simp [zeroValue, typeInfo, hi, hz']
  have hfill := fill_run (place := fun j => some (j * sz, sz)) L (ps.map fun p => (p.1, ev l p.2)) z (by simpa using a1) (fun j p q hp hq => by
    obtain ⟨x1, x2⟩ := a2 j p q hp hq
    exact ⟨by rw [x1], x2⟩) (okPartsB_spec hkb)
  have hps : (ps.toArray.map fun (x : Nat × Operand) => match x with | (i, x) => (i, ev l x)) = (ps.map fun p => (p.1, ev l p.2)).toArray := by simp
  have hsz : (sizeOf e).run P w = .ok sz w := by simp [sizeOf, typeInfo, hq, hqs]
  simp only [execOp, hps, Instr.build, Sem.run_bind, hzr, Result.andThen_ok, run_underlying hT w, Value.cells, hsz, hfill]
  rfl
/-! ### functions that the model answers itself -/
theorem v_ext {f : FuncId} {fn : Func} {E : Array Value → Sem Value} {xs : List Operand} {tys : Array TypeId} {vs : List Value} {v : Value} (hf : P.funcs[f]? = some fn) (hname : (fn.name == "runtime.NumGoroutine") = false) (hb : fn.body.isNone = true) (hn : Extern.findNext fn = none) (he : Extern.find fn = some E)
    (hx : evs l xs = some vs) (hr : ∀ w, (E vs.toArray).run P w = .ok v w) : OV P (.call ⟨.value (.func f), xs.toArray, tys⟩) ty l H v := ov fun _ _ _ w _ => by
  simp only [execOp, resolve, Deferred.ofValue, ev, List.map_toArray, evs_map hx]
  simp [invoke, run_callFunc_extern hf hname hb hn he, hr w]
end Go.Eng

namespace Go.Eng
open Go.RowKit
variable {P : Program} {Q : Exit → Act → World → Prop} {N : Fm} {l : Slots} {H : World → Prop} {ops : Array Oper} {rest : List Oper} {w0 : World} {F : Nat → Prop} {m : List Item} {ty : TypeId} {pos : String} {after : Array Edge} {g : Option (Nat × Bool)} {d : Nat} {S : World → Prop} {t : Nat}
/-! ### instances -/
class NatOf (a : Int) (x : outParam Nat) : Prop where eq : a = (x : Int)
instance natCast (x : Nat) : NatOf (x : Int) x := ⟨rfl⟩
instance natLit (n : Nat) : NatOf (no_index (@OfNat.ofNat Int n _)) (@OfNat.ofNat Nat n _) := ⟨rfl⟩
class Lim (k : IntKind) (L : outParam Nat) : Prop where wrap : ∀ n : Nat, n < L → k.wrap n = n
instance : Lim .i64 9223372036854775808 := ⟨fun n h => by simp [IntKind.wrap, IntKind.bits, IntKind.signed]; omega⟩
instance : Lim .i32 2147483648 := ⟨fun n h => by simp [IntKind.wrap, IntKind.bits, IntKind.signed]; omega⟩
instance : Lim .u64 18446744073709551616 := ⟨fun n h => by simp [IntKind.wrap, IntKind.bits, IntKind.signed]; omega⟩
instance : Lim .u32 4294967296 := ⟨fun n h => by simp [IntKind.wrap, IntKind.bits, IntKind.signed]; omega⟩
instance : Lim .u16 65536 := ⟨fun n h => by simp [IntKind.wrap, IntKind.bits, IntKind.signed]; omega⟩
instance : Lim .u8 256 := ⟨fun n h => by simp [IntKind.wrap, IntKind.bits, IntKind.signed]; omega⟩
/-- What a comparison says. -/
class Deci (b : Bool) (p : outParam Prop) : Prop where iff : b = true ↔ p
instance {p : Prop} {_ : Decidable p} : Deci (decide p) p := ⟨by simp⟩
instance {α : Type} [BEq α] [LawfulBEq α] (a b : α) : Deci (a == b) (a = b) := ⟨by simp⟩
instance {α : Type} [BEq α] [LawfulBEq α] (a b : α) : Deci (a != b) (a ≠ b) := ⟨by simp⟩
instance {b : Bool} {p : Prop} [h : Deci b p] : Deci (!b) (¬ p) := ⟨by rw [← h.iff]; simp⟩
instance (a b : ByteArray) : Deci (seq a b) (a = b) := ⟨seq_iff⟩
instance : Deci true True := ⟨by simp⟩
instance : Deci false False := ⟨by simp⟩
instance (priority := low) (b : Bool) : Deci b (b = true) := ⟨.rfl⟩
/-- .. that is not said plainly. -/
class DeciN (b : Bool) (p : outParam Prop) : Prop where iff : b = true ↔ p
instance {p : Prop} {_ : Decidable p} : DeciN (decide p) p := ⟨by simp⟩
instance {α : Type} [BEq α] [LawfulBEq α] (a b : α) : DeciN (a == b) (a = b) := ⟨by simp⟩
instance {α : Type} [BEq α] [LawfulBEq α] (a b : α) : DeciN (a != b) (a ≠ b) := ⟨by simp⟩
instance {b : Bool} {p : Prop} [h : Deci b p] : DeciN (!b) (¬ p) := ⟨by rw [← h.iff]; simp⟩
instance (a b : ByteArray) : DeciN (seq a b) (a = b) := ⟨seq_iff⟩
theorem DeciN.deci {b : Bool} {p : Prop} (h : DeciN b p) : Deci b p := ⟨h.iff⟩
theorem Deci.yes {b : Bool} {p : Prop} [h : Deci b p] (hp : p) : b = true := h.iff.2 hp
theorem Deci.no {b : Bool} {p : Prop} [h : Deci b p] (hp : ¬ p) : b = false := by
  cases b with
  | false => rfl
  | true => exact absurd (h.iff.1 rfl) hp
/-! ### operations on two values -/
class BinV (op : BinOp) (u v : Value) (r : outParam Value) (C : outParam Prop) : Prop where
  run : C → ∀ (P : Program) (xt : TypeId) (x y : Operand) (w : World), (do eqGuard op xt x y u v; binOp op xt u v : Sem Value).run P w = .ok r w
theorem v_bn {op : BinOp} {x y : Operand} {u v r : Value} {C : Prop} {T U : TypeId} [h : BinV op u v r C] (hx : evO l x = some u) (hy : evO l y = some v) (hc : C) : OV P (.binOp op T x y U) ty l H r := v_bin hx hy fun w => h.run hc P T x y w
theorem v_bt {op : BinOp} {x y : Operand} {u v r : Value} {T U : TypeId} [h : BinV op u v r True] (hx : evO l x = some u) (hy : evO l y = some v) : OV P (.binOp op T x y U) ty l H r := v_bn hx hy trivial
theorem val_int {k : IntKind} {a b : Int} (w : World) (h : a = b) : (.ok (.int k a) w : Result Value) = .ok (.int k b) w := by rw [h]
section
variable {k : IntKind} {a b : Int} {x y L : Nat} [ha : NatOf a x] [hb : NatOf b y] [hL : Lim k L]
include ha hb hL
instance : BinV .add (.int k a) (.int k b) (.int k (x + y : Nat)) (x + y < L) := ⟨fun h P xt o o' w => by
  obtain rfl := ha.eq; obtain rfl := hb.eq
  show (if k ≠ k then _ else Op.intArith .add k _ _).run P w = _
  rw [if_neg (by simp)]
  exact val_int w (by rw [← Int.natCast_add]; exact hL.wrap _ h)⟩
instance : BinV .sub (.int k a) (.int k b) (.int k (x - y : Nat)) (y ≤ x ∧ x - y < L) := ⟨fun h P xt o o' w => by
  obtain rfl := ha.eq; obtain rfl := hb.eq
  show (if k ≠ k then _ else Op.intArith .sub k _ _).run P w = _
  rw [if_neg (by simp)]
  exact val_int w (by rw [← Int.natCast_sub h.1]; exact hL.wrap _ h.2)⟩
instance : BinV .mul (.int k a) (.int k b) (.int k (x * y : Nat)) (x * y < L) := ⟨fun h P xt o o' w => by
  obtain rfl := ha.eq; obtain rfl := hb.eq
  show (if k ≠ k then _ else Op.intArith .mul k _ _).run P w = _
  rw [if_neg (by simp)]
  exact val_int w (by rw [← Int.natCast_mul]; exact hL.wrap _ h)⟩
instance : BinV .quo (.int k a) (.int k b) (.int k (x / y : Nat)) (0 < y ∧ x < L) := ⟨fun h P xt o o' w => by
  obtain rfl := ha.eq; obtain rfl := hb.eq
  show (if k ≠ k then _ else Op.intDiv .quo k _ _).run P w = _
  rw [if_neg (by simp)]
  have h0 : ¬ ((y : Int) = 0) := by omega
  simp only [Op.intDiv, h0, if_false]
  exact val_int w (hL.wrap _ (Nat.lt_of_le_of_lt (Nat.div_le_self x y) h.2))⟩
instance : BinV .rem (.int k a) (.int k b) (.int k (x % y : Nat)) (0 < y) := ⟨fun h P xt o o' w => by
  obtain rfl := ha.eq; obtain rfl := hb.eq
  show (if k ≠ k then _ else Op.intDiv .rem k _ _).run P w = _
  rw [if_neg (by simp)]
  have h0 : ¬ ((y : Int) = 0) := by omega
  simp only [Op.intDiv, h0, if_false]
  exact val_int w rfl⟩
end
/-! general integers -/
section
variable {k : IntKind} {a b : Int}
instance (priority := low) : BinV .add (.int .i64 a) (.int .i64 b) (.int .i64 (a + b)) (-9223372036854775808 ≤ a + b ∧ a + b < 9223372036854775808) := ⟨fun h _ _ _ _ w => val_int w (i64_in _ h.1 h.2)⟩
instance (priority := low) : BinV .sub (.int .i64 a) (.int .i64 b) (.int .i64 (a - b)) (-9223372036854775808 ≤ a - b ∧ a - b < 9223372036854775808) := ⟨fun h _ _ _ _ w => val_int w (i64_in _ h.1 h.2)⟩
instance : BinV .lss (.int k a) (.int k b) (.bool (decide (a < b))) True := ⟨fun _ P xt o o' w => by
  show (if k ≠ k then _ else Op.intCmp .lss _ _).run P w = _
  rw [if_neg (by simp)]; rfl⟩
instance : BinV .leq (.int k a) (.int k b) (.bool (decide (a ≤ b))) True := ⟨fun _ P xt o o' w => by
  show (if k ≠ k then _ else Op.intCmp .leq _ _).run P w = _
  rw [if_neg (by simp)]; rfl⟩
instance : BinV .gtr (.int k a) (.int k b) (.bool (decide (a > b))) True := ⟨fun _ P xt o o' w => by
  show (if k ≠ k then _ else Op.intCmp .gtr _ _).run P w = _
  rw [if_neg (by simp)]; rfl⟩
instance : BinV .geq (.int k a) (.int k b) (.bool (decide (a ≥ b))) True := ⟨fun _ P xt o o' w => by
  show (if k ≠ k then _ else Op.intCmp .geq _ _).run P w = _
  rw [if_neg (by simp)]; rfl⟩
instance : BinV .eql (.int k a) (.int k b) (.bool (a == b)) True := ⟨fun _ P xt o o' w => by
  show (if k ≠ k then _ else Op.intCmp .eql _ _).run P w = _
  rw [if_neg (by simp)]; rfl⟩
instance : BinV .neq (.int k a) (.int k b) (.bool (a != b)) True := ⟨fun _ P xt o o' w => by
  show (if k ≠ k then _ else Op.intCmp .neq _ _).run P w = _
  rw [if_neg (by simp)]; rfl⟩
end
/-! bits of unsigned kinds -/
class Uns (k : IntKind) (L n : outParam Nat) : Prop where
  bits : k.bits = n
  lim : L = 2 ^ n
  wrap : ∀ m : Nat, k.wrap (m : Int) = ((m % L : Nat) : Int)
instance : Uns .u8 256 8 := ⟨rfl, rfl, u8_wrap_nat⟩
instance : Uns .u16 65536 16 := ⟨rfl, rfl, fun n => by simp [IntKind.wrap, IntKind.bits, IntKind.signed]⟩
instance : Uns .u32 4294967296 32 := ⟨rfl, rfl, u32_wrap_nat⟩
instance : Uns .u64 18446744073709551616 64 := ⟨rfl, rfl, u64_wrap_nat⟩
section
variable {k : IntKind} {a b : Int} {x y L n : Nat} [ha : NatOf a x] [hb : NatOf b y] [hU : Uns k L n]
include ha hb hU
instance : BinV .and (.int k a) (.int k b) (.int k (x &&& y : Nat)) (x < L) := ⟨fun h P xt o o' w => by
  obtain rfl := ha.eq; obtain rfl := hb.eq; obtain rfl := hU.bits; obtain rfl := hU.lim
  show (if k ≠ k then _ else Op.intBits .and k _ _).run P w = _
  rw [if_neg (by simp)]
  refine val_int w ?_
  rw [ofInt_nat, ofInt_nat, hU.wrap, BitVec.toNat_and, BitVec.toNat_ofNat, BitVec.toNat_ofNat]
  congr 1
  have h1 : x % 2 ^ k.bits = x := Nat.mod_eq_of_lt h
  have h2 : (x &&& y % 2 ^ k.bits) = (x &&& y) := by
    have := Nat.and_mod_two_pow (a := x) (b := y) (n := k.bits)
    rw [h1] at this
    rw [← this]
    exact Nat.mod_eq_of_lt (Nat.lt_of_le_of_lt Nat.and_le_left h)
  rw [h1, h2]
  exact Nat.mod_eq_of_lt (Nat.lt_of_le_of_lt Nat.and_le_left h)⟩
instance : BinV .or (.int k a) (.int k b) (.int k (x ||| y : Nat)) (x < L ∧ y < L) := ⟨fun h P xt o o' w => by
  obtain rfl := ha.eq; obtain rfl := hb.eq; obtain rfl := hU.bits; obtain rfl := hU.lim
  show (if k ≠ k then _ else Op.intBits .or k _ _).run P w = _
  rw [if_neg (by simp)]
  refine val_int w ?_
  rw [ofInt_nat, ofInt_nat, hU.wrap, BitVec.toNat_or, BitVec.toNat_ofNat, BitVec.toNat_ofNat]
  congr 1
  rw [Nat.mod_eq_of_lt h.1, Nat.mod_eq_of_lt h.2]
  exact Nat.mod_eq_of_lt (Nat.or_lt_two_pow h.1 h.2)⟩
instance : BinV .xor (.int k a) (.int k b) (.int k (x ^^^ y : Nat)) (x < L ∧ y < L) := ⟨fun h P xt o o' w => by
  obtain rfl := ha.eq; obtain rfl := hb.eq; obtain rfl := hU.bits; obtain rfl := hU.lim
  show (if k ≠ k then _ else Op.intBits .xor k _ _).run P w = _
  rw [if_neg (by simp)]
  refine val_int w ?_
  rw [ofInt_nat, ofInt_nat, hU.wrap, BitVec.toNat_xor, BitVec.toNat_ofNat, BitVec.toNat_ofNat]
  congr 1
  rw [Nat.mod_eq_of_lt h.1, Nat.mod_eq_of_lt h.2]
  exact Nat.mod_eq_of_lt (Nat.xor_lt_two_pow h.1 h.2)⟩
instance {k' : IntKind} : BinV .shr (.int k a) (.int k' b) (.int k (x / 2 ^ y : Nat)) (y < n) := ⟨fun h P xt o o' w => by
  obtain rfl := ha.eq; obtain rfl := hb.eq; obtain rfl := hU.bits
  show ((binOp .shr xt (.int k x) (.int k' y)).run P w) = _
  have h0 : ¬ ((y : Int) < 0) := by omega
  simp only [binOp, Op.shift, h0, if_false, Int.toNat_natCast]
  refine val_int w ?_
  have e : min y k.bits = y := by omega
  have e2 : (2 : Int) ^ y = ((2 ^ y : Nat) : Int) := by simp
  rw [e, e2, Int.fdiv_eq_ediv_of_nonneg _ (Int.natCast_nonneg _)]
  rfl⟩
instance {k' : IntKind} : BinV .shl (.int k a) (.int k' b) (.int k (x * 2 ^ y % L : Nat)) (y < n) := ⟨fun h P xt o o' w => by
  obtain rfl := ha.eq; obtain rfl := hb.eq; obtain rfl := hU.bits
  show ((binOp .shl xt (.int k x) (.int k' y)).run P w) = _
  have h0 : ¬ ((y : Int) < 0) := by omega
  simp only [binOp, Op.shift, h0, if_false, Int.toNat_natCast]
  refine val_int w ?_
  have e : min y k.bits = y := by omega
  have e2 : ((x : Int) * 2 ^ y) = ((x * 2 ^ y : Nat) : Int) := by simp
  rw [e, e2, hU.wrap]⟩
end
/-! bools, strings, nil -/
theorem seq_of (a b : ByteArray) : seq a b = (a.toList == b.toList) := by rw [← seq_eq, ← bytes_beq]
section
variable {a b : Bool} {s u : ByteArray}
instance : BinV .eql (.string s) (.string u) (.bool (seq s u)) True := ⟨fun _ _ _ _ _ _ => by rw [seq_of]; rfl⟩
instance : BinV .neq (.string s) (.string u) (.bool (!seq s u)) True := ⟨fun _ _ _ _ _ _ => by rw [seq_of]; rfl⟩
instance : BinV .lss (.string s) (.string u) (.bool (Op.bytesLess s.toList u.toList)) True := ⟨fun _ _ _ _ _ _ => rfl⟩
instance : BinV .gtr (.string s) (.string u) (.bool (!(Op.bytesLess s.toList u.toList || seq s u))) True := ⟨fun _ _ _ _ _ _ => by rw [seq_of]; rfl⟩
instance : BinV .leq (.string s) (.string u) (.bool (Op.bytesLess s.toList u.toList || seq s u)) True := ⟨fun _ _ _ _ _ _ => by rw [seq_of]; rfl⟩
instance : BinV .geq (.string s) (.string u) (.bool (!(Op.bytesLess s.toList u.toList))) True := ⟨fun _ _ _ _ _ _ => rfl⟩
instance : BinV .add (.string s) (.string u) (.string (s ++ u)) (s.size + u.size < 9223372036854775808) := ⟨fun h P xt o o' w => by
  have h' : ¬ (((s.size + u.size : Nat) : Int) > IntKind.i64.max) := by simp [IntKind.max, IntKind.bits, IntKind.signed]; omega
  show ((binOp .add xt (.string s) (.string u)).run P w) = _
  simp only [binOp, Op.stringOp, if_neg h']
  rfl⟩
end
theorem v_eqb {x y : Operand} {a b : Bool} {T U : TypeId} (hx : evO l x = some (.bool a)) (hy : evO l y = some (.bool b)) (hT : P.underlying T = some .bool) : OV P (.binOp .eql T x y U) ty l H (.bool (a == b)) := v_bin hx hy fun w => by
  show ((Op.equal T (.bool a) (.bool b) >>= fun r => (pure (Value.bool r) : Sem Value)).run P w) = _
  rw [Sem.run_bind, run_equal_bool w T a b hT]; rfl
theorem v_neb {x y : Operand} {a b : Bool} {T U : TypeId} (hx : evO l x = some (.bool a)) (hy : evO l y = some (.bool b)) (hT : P.underlying T = some .bool) : OV P (.binOp .neq T x y U) ty l H (.bool (!(a == b))) := v_bin hx hy fun w => by
  show ((Op.equal T (.bool a) (.bool b) >>= fun r => (pure (Value.bool (!r)) : Sem Value)).run P w) = _
  rw [Sem.run_bind, run_equal_bool w T a b hT]; rfl
/-! ### one operation -/
def okL (ops : Array Oper) (N : Fm) (l : Slots) (g : Option (Nat × Bool)) (op : Op) (d : Nat) : Bool := okG ops l g && okOp N l op d
theorem l_w {op : Op} {v : Value} (hok : okL ops N l g op d = true) (hv : OV P op ty l H v) (k : HL P ops Q N rest ((d, v) :: l) H) : HL P ops Q N (⟨some d, op, ty, pos, after, g⟩ :: rest) l H := by
  simp only [okL, Bool.and_eq_true] at hok
  exact l_v hok.1 hok.2 hv k
def okP (ops : Array Oper) (N : Fm) (l : Slots) (g : Nat × Bool) (d : Nat) : Bool := Nat.ble (d + 1) N.n && match nth ops.toList g.1 with
  | some o => (match o.dst with | some t => (match get l t with | some (.bool c) => !(c == g.2) | some (.tuple _) => true | _ => false) | none => false)
  | none => false
theorem l_no {op : Op} {g : Nat × Bool} (hok : okP ops N l g d = true) (k : HL P ops Q N rest ((d, undef) :: l) H) : HL P ops Q N (⟨some d, op, ty, pos, after, some g⟩ :: rest) l H := by
  simp only [okP, Bool.and_eq_true] at hok
  obtain ⟨h1, h2⟩ := hok
  split at h2
  · rename_i o ho
    have ho := nth_ops ho
    split at h2
    · rename_i t ht
      split at h2
      · rename_i c hc
        exact l_pass h1 (by simp only [okGuard, ho, Option.bind_some, ht, hc]; revert h2; cases c <;> cases g.2 <;> simp) k
      · rename_i vs hc
        exact l_passu h1 (by simp only [okNo, ho, Option.bind_some, ht, hc]) k
      · cases h2
    · cases h2
  · cases h2
/-! values by instances -/
theorem v_pT {c x y : Operand} {v : Value} {b : Bool} {p : Prop} [h : Deci b p] (hc : evO l c = some (.bool b)) (hx : evO l x = some v) (hp : p) : OV P (.pick c x y) ty l H v := v_pickT hc (h.yes hp) hx
theorem v_pF {c x y : Operand} {v : Value} {b : Bool} {p : Prop} [h : Deci b p] (hc : evO l c = some (.bool b)) (hy : evO l y = some v) (hp : ¬ p) : OV P (.pick c x y) ty l H v := v_pickF hc (h.no hp) hy
theorem v_nt {x : Operand} {b : Bool} {T : TypeId} (hx : evO l x = some (.bool b)) : OV P (.unOp .not T x) ty l H (.bool (!b)) := ov fun _ _ _ w _ => by simp only [execOp, ev_of hx]; rfl
theorem v_ia {T : TypeId} {x y : Operand} {b i n sz : Nat} {k : IntKind} {a : Int} {j : Nat} [h : NatOf a j] (hx : evO l x = some (.pointer (some ⟨b, i, none⟩))) (hy : evO l y = some (.int k a)) (hT : arrOf P T = some (n, sz)) (h1 : j < n) : OV P (.indexAddr T x y) ty l H (.pointer (some ⟨b, i + j * sz, none⟩)) := by
  obtain rfl := h.eq; exact v_idxa hx hy hT h1
theorem v_ia1 {T : TypeId} {x y : Operand} {b i n : Nat} {k : IntKind} {a : Int} {j : Nat} [h : NatOf a j] (hx : evO l x = some (.pointer (some ⟨b, i, none⟩))) (hy : evO l y = some (.int k a)) (hT : arrOf P T = some (n, 1)) (h1 : j < n) : OV P (.indexAddr T x y) ty l H (.pointer (some ⟨b, i + j, none⟩)) := by
  obtain rfl := h.eq; exact v_idxa1 hx hy hT h1
theorem v_is1 {T : TypeId} {x y : Operand} {b i n c : Nat} {k : IntKind} {a : Int} {j : Nat} [h : NatOf a j] (hx : evO l x = some (.slice (some ⟨b, i, none⟩) n c)) (hy : evO l y = some (.int k a)) (hT : sliOf P T = some 1) (h1 : j < n) : OV P (.indexAddr T x y) ty l H (.pointer (some ⟨b, i + j, none⟩)) := by
  obtain rfl := h.eq; exact v_idxs1 hx hy hT h1
theorem v_is {T : TypeId} {x y : Operand} {b i n c sz : Nat} {k : IntKind} {a : Int} {j : Nat} [h : NatOf a j] (hx : evO l x = some (.slice (some ⟨b, i, none⟩) n c)) (hy : evO l y = some (.int k a)) (hT : sliOf P T = some sz) (h1 : j < n) : OV P (.indexAddr T x y) ty l H (.pointer (some ⟨b, i + j * sz, none⟩)) := by
  obtain rfl := h.eq; exact v_idxs hx hy hT h1
theorem v_sa {T : TypeId} {x y : Operand} {s : ByteArray} {k : IntKind} {a : Int} {i : Nat} [h : NatOf a i] (hx : evO l x = some (.string s)) (hy : evO l y = some (.int k a)) (hT : P.underlying T = some .string) (hi : i < s.size) : OV P (.index T x y) ty l H (.int .u8 (s[i].toNat : Nat)) := by
  obtain rfl := h.eq; exact v_strat hx hy hT hi
theorem v_sF {T : TypeId} {x y : Operand} {s : ByteArray} {k : IntKind} {a : Int} {i : Nat} [h : NatOf a i] (hx : evO l x = some (.string s)) (hy : evO l y = some (.int k a)) (hT : P.underlying T = some .string) (hi : i ≤ s.size) : OV P (.slice T x (some y) none none) ty l H (.string (s.extract i s.size)) := by
  obtain rfl := h.eq; exact v_slstrF hx hy hT hi
theorem v_sT {T : TypeId} {x y : Operand} {s : ByteArray} {k : IntKind} {a : Int} {i : Nat} [h : NatOf a i] (hx : evO l x = some (.string s)) (hy : evO l y = some (.int k a)) (hT : P.underlying T = some .string) (hi : i ≤ s.size) : OV P (.slice T x none (some y) none) ty l H (.string (s.extract 0 i)) := by
  obtain rfl := h.eq; exact v_slstrT hx hy hT hi
theorem v_sFT {T : TypeId} {x y z : Operand} {s : ByteArray} {k k' : IntKind} {a b : Int} {i j : Nat} [h : NatOf a i] [h' : NatOf b j] (hx : evO l x = some (.string s)) (hy : evO l y = some (.int k a)) (hz : evO l z = some (.int k' b)) (hT : P.underlying T = some .string) (hi : i ≤ j ∧ j ≤ s.size) : OV P (.slice T x (some y) (some z) none) ty l H (.string (s.extract i j)) := by
  obtain rfl := h.eq; obtain rfl := h'.eq; exact v_slstr hx hy hz hT hi.1 hi.2
theorem v_lF {T e : TypeId} {x y : Operand} {p : Option Addr} {n c sz : Nat} {k : IntKind} {a : Int} {i : Nat} [h : NatOf a i] (hx : evO l x = some (.slice p n c)) (hy : evO l y = some (.int k a)) (hT : sliE P T = some e) (he : cellsT P e = some sz) (hi : i ≤ n) : OV P (.slice T x (some y) none none) ty l H (.slice (slAt p (decide (c = i)) (i * sz)) (n - i) (c - i)) := by
  obtain rfl := h.eq; exact v_slF hx hy hT he hi
/-! ### guards and tests -/
section
variable {c : Operand} {x y : Code} {b : Bool} {p : Prop} [h : Deci b p]
include h
theorem t_T (hc : evO l c = some (.bool b)) (hk : known1 l c = true) (hp : p) (k : HT P x Q N l H) : HT P (.cond c x y) Q N l H := t_true hk hc (h.yes hp) k
theorem t_F (hc : evO l c = some (.bool b)) (hk : known1 l c = true) (hp : ¬ p) (k : HT P y Q N l H) : HT P (.cond c x y) Q N l H := t_false hk hc (h.no hp) k
theorem t_if (hc : evO l c = some (.bool b)) (hk : known1 l c = true) (ht : p → HT P x Q N l H) (hf : ¬ p → HT P y Q N l H) : HT P (.cond c x y) Q N l H := t_cond b hk hc (fun e => ht (h.iff.1 e)) (fun e => hf fun hp => by rw [h.yes hp] at e; cases e)
variable {op : Op} {dst : Option Nat} {g : Nat × Bool}
theorem l_if (hd : (nth ops.toList g.1).bind (·.dst) = some d) (hg : get l d = some (.bool b)) (ht : p → HL P ops Q N (⟨dst, op, ty, pos, after, some g⟩ :: rest) ((d, .bool true) :: l) H) (hf : ¬ p → HL P ops Q N (⟨dst, op, ty, pos, after, some g⟩ :: rest) ((d, .bool false) :: l) H) : HL P ops Q N (⟨dst, op, ty, pos, after, some g⟩ :: rest) l H := l_ask hd hg (fun e => ht (h.iff.1 e)) (fun e => hf fun hp => by rw [h.yes hp] at e; cases e)
end
section
variable {b : Bool} {p : Prop} [h : DeciN b p] {op : Op} {dst : Option Nat} {g : Nat × Bool}
include h
theorem l_T (hd : (nth ops.toList g.1).bind (·.dst) = some d) (hg : get l d = some (.bool b)) (hp : p) (k : HL P ops Q N (⟨dst, op, ty, pos, after, some g⟩ :: rest) ((d, .bool true) :: l) H) : HL P ops Q N (⟨dst, op, ty, pos, after, some g⟩ :: rest) l H := l_askT hd hg (h.deci.yes hp) k
theorem l_F (hd : (nth ops.toList g.1).bind (·.dst) = some d) (hg : get l d = some (.bool b)) (hp : ¬ p) (k : HL P ops Q N (⟨dst, op, ty, pos, after, some g⟩ :: rest) ((d, .bool false) :: l) H) : HL P ops Q N (⟨dst, op, ty, pos, after, some g⟩ :: rest) l H := l_askF hd hg (h.deci.no hp) k
end
/-! ### regions that draw -/
/-- The next operation that tells a value, whose guard lets it run. -/
def pickL (all : List Oper) (listed : List Bool) (E : List Nat) (l : Slots) : Nat → List Oper → Option Nat
  | _, [] => none
  | i, o :: r => bif nth listed i == some false && (!isIn E i && (allIn listed o.after.toList && (quiet o.op || noB all l o.guard))) then some i else pickL all listed E l (i + 1) r
theorem d_w {i : Nat} (E : List Nat) {n : Nat} {listed : Array Bool} {op : Op} {v : Value} (_hp : pickL ops.toList listed.toList E l 0 ops.toList = some i)
    (hi : nth ops.toList i = some ⟨some d, op, ty, pos, after, g⟩) (hok : okL ops N l g op d = true) (hb : stepB ops t listed i = true) (hS : ∀ w, H w → S w) (hv : OV P op ty l S v)
    (k : HD P ops Q S t N n (listed.setIfInBounds i true) ((d, v) :: l) H) : HD P ops Q S t N (n + 1) listed l H := by
  simp only [okL, Bool.and_eq_true] at hok
  have hp' : i = i := rfl
  obtain ⟨hs, hN, hk⟩ := okOp_spec hok.2
  exact d_take hb (nth_ops hi) hS (fun a s => .inl ⟨okG_spec s hok.1, fun w hw => by rw [s.exec _ hs hk, exec_guard _ _ none _ _ _ "" _ #[] _ none]; exact hv.run none "" #[] w hw⟩) (fun a s => s.put hN v) k
theorem d_no {i : Nat} (E : List Nat) {n : Nat} {listed : Array Bool} {op : Op} {g : Nat × Bool} (_hp : pickL ops.toList listed.toList E l 0 ops.toList = some i)
    (hi : nth ops.toList i = some ⟨some d, op, ty, pos, after, some g⟩) (hok : okP ops N l g d = true) (hb : stepB ops t listed i = true) (hS : ∀ w, H w → S w)
    (k : HD P ops Q S t N n (listed.setIfInBounds i true) ((d, undef) :: l) H) : HD P ops Q S t N (n + 1) listed l H := by
  simp only [okP, Bool.and_eq_true] at hok
  obtain ⟨h1, h2⟩ := hok
  split at h2
  · rename_i o ho
    have ho := nth_ops ho
    split at h2
    · rename_i t' ht
      split at h2
      · rename_i c hc
        exact d_take hb (nth_ops hi) hS (fun a s => .inr ⟨okGuard_spec s (by simp only [okGuard, ho, Option.bind_some, ht, hc]; revert h2; cases c <;> cases g.2 <;> simp), rfl⟩) (fun a s => s.put (Nat.le_of_ble_eq_true h1) undef) k
      · rename_i vs hc
        exact d_take hb (nth_ops hi) hS (fun a s => .inr ⟨okNo_spec s (by simp only [okNo, ho, Option.bind_some, ht, hc]), rfl⟩) (fun a s => s.put (Nat.le_of_ble_eq_true h1) undef) k
      · cases h2
    · cases h2
  · cases h2
section
variable {i n d : Nat} {listed : Array Bool} {op : Op} {dst : Option Nat} {g : Nat × Bool} {b : Bool} {p : Prop} [h : DeciN b p]
include h
theorem d_T (E : List Nat) (_hp : pick ops listed E = some i) (_hi : nth ops.toList i = some ⟨dst, op, ty, pos, after, some g⟩) (_hd : (nth ops.toList g.1).bind (·.dst) = some d) (hg : get l d = some (.bool b)) (hp : p) (k : HD P ops Q S t N n listed ((d, .bool true) :: l) H) : HD P ops Q S t N n listed l H := d_say d _ _ hg (by rw [h.deci.yes hp]) k
theorem d_F (E : List Nat) (_hp : pick ops listed E = some i) (_hi : nth ops.toList i = some ⟨dst, op, ty, pos, after, some g⟩) (_hd : (nth ops.toList g.1).bind (·.dst) = some d) (hg : get l d = some (.bool b)) (hp : ¬ p) (k : HD P ops Q S t N n listed ((d, .bool false) :: l) H) : HD P ops Q S t N n listed l H := d_say d _ _ hg (by rw [h.deci.no hp]) k
end
/-! ### rows: made, set, read -/
/-- An item, known otherwise. -/
theorem Hp.imp {it it' : Item} {w : World} (hw : Hp w0 F (it :: m) w) (hf : ∀ k, it'.foot k → it.foot k) (hp : it.prop w → it'.prop w) (hs : it'.Stable (roOf w0 F)) : Hp w0 F (it' :: m) w := by
  refine ⟨hw.fr, fun x hx => ?_, ?_⟩
  · rcases List.mem_cons.1 hx with rfl | hx
    · obtain ⟨h1, -, h3⟩ := hw.item it (by simp)
      exact ⟨hp h1, hs, fun k hk => h3 k (hf k hk)⟩
    · exact hw.item x (by simp [hx])
  · obtain ⟨h1, h2⟩ := List.pairwise_cons.1 hw.apart
    exact List.pairwise_cons.2 ⟨fun y hy k hk => h1 y hy k (hf k hk), h2⟩
theorem Hp.ownOf {w : World} {b n sz : Nat} {cs : Array Value} {e : TypeId} {c : Nat} (hw : Hp w0 F (pt b (.cells cs e (0, 0)) :: m) w) (hn : n ≤ c) (hc : c ≤ maxLen) (hs : cs.size = c * sz) : Hp w0 F (own e sz (some (b, c)) n (cs.toList.take (n * sz)) :: m) w :=
  hw.imp (fun k ⟨c', h⟩ => by cases h; rfl) (fun h => ⟨by
    have : n * sz ≤ c * sz := Nat.mul_le_mul_right _ hn
    rw [List.length_take, Array.length_toList, hs]; omega, hn, hc, cs, h, hs, rfl⟩) (own_stable _ _ _ _ _ _)
theorem o_makeown {T e : TypeId} {x y : Operand} {n b : Nat} {z : Value} {k k' : IntKind} {i j : Int} [h : NatOf i n] [h' : NatOf j n] (hok : okOp N l (.makeSlice T x y) d = true) (hx : evO l x = some (.int k i)) (hy : evO l y = some (.int k' j))
    (hT : sliE P T = some e) (hi : infoE P e = some (1, b, z)) (hz : z.cells = #[z]) (hb : b * n ≤ 281474976710656) (hn : n ≤ 9223372036854775807) :
    HO P ⟨some d, .makeSlice T x y, ty, pos, after, g⟩ Q N l (Hp w0 F m) (α := { c : Nat // w0.heap.size ≤ c }) (fun c => (d, .slice (some ⟨c.1, 0, none⟩) n n) :: l) (fun c => Hp w0 F (own e 1 (some (c.1, n)) n (List.replicate n z) :: m)) := by
  obtain rfl := h.eq; obtain rfl := h'.eq
  exact o_mem (val := fun c : { b : Nat // w0.heap.size ≤ b } => .slice (some ⟨c.1, 0, none⟩) n n) hok (fun w hw => by
    obtain ⟨i, h1, h2, h3, h4⟩ := infoE_spec hi
    refine ⟨⟨w.heap.size, hw.fr.size⟩, w.alloc (.cells (Array.replicate n z) e), ?_, ?_⟩
    · have hr := run_make (P := P) w T e i z (sliE_spec hT) h1 h4 k k' n n (by omega) (by omega) (by rw [h3]; generalize hq : b * n = q at hb; rw [← Int.natCast_mul, hq]; omega) (by omega)
      rw [h2, Nat.mul_one, Int.toNat_natCast, hz, madeCells_one] at hr
      simp only [execOp, ev_of hx, ev_of hy, Sem.run_bind, hr, Result.andThen_ok, Sem.run_pure]
    · have := (hw.alloc (.cells (Array.replicate n z) e)).ownOf (n := n) (sz := 1) (c := n) (Nat.le_refl _) (by unfold maxLen; omega) (by simp)
      simpa using this)
theorem own_frozen {w : World} {e : TypeId} {sz n b c i : Nat} {xs : List Value} (h : (own e sz (some (b, c)) n xs).prop w) : w.frozen? ⟨b, i, none⟩ = false := by
  obtain ⟨-, -, cur, h3, -⟩ := h.2
  exact frozen_of_row w b i cur e h3
theorem hp_setOwn {w : World} {e : TypeId} {sz n b c i : Nat} {xs : List Value} (hw : Hp w0 F (own e sz (some (b, c)) n xs :: m) w) (v : Value) : Hp w0 F (own e sz (some (b, c)) n (xs.set i v) :: m) (w.setCell ⟨b, i, none⟩ v) := by
  have hp := (hw.item (own e sz (some (b, c)) n xs) (by simp)).1
  obtain ⟨h1, h2, cur, h3, h4, h5⟩ := hp.2
  refine Hp.call (L := [own e sz (some (b, c)) n (xs.set i v)]) (m := [own e sz (some (b, c)) n xs]) (Fc := fun k => k = b) hw ⟨⟨rfl, rfl, rfl, by simp [World.setCell], fun k _ hk => heap_setCell_other w ⟨b, i, none⟩ k v hk⟩, fun it hm => ?_, .cons (fun _ h => by cases h) .nil⟩ (fun k _ hk => ⟨own e sz (some (b, c)) n xs, by simp, ⟨c, by rw [hk]⟩⟩)
  obtain rfl : it = own e sz (some (b, c)) n (xs.set i v) := by simpa using hm
  refine ⟨⟨by simpa using hp.1, h1, h2, _, heap_setCell_same w b i cur e v h3, by simpa using h4, ?_⟩, own_stable _ _ _ _ _ _, fun k ⟨c', hk⟩ => ?_⟩
  · rw [Array.toList_setIfInBounds, ← h5, List.take_set]
  · cases hk
    refine ⟨?_, fun _ => rfl⟩
    have := (Array.getElem?_eq_some_iff.1 h3).1
    simpa [World.setCell] using this
theorem o_setown {T e : TypeId} {x y : Operand} {b i c n : Nat} {v : Value} {xs : List Value} (hok : (noSel (.store T x y) && known l (.store T x y)) = true)
    (hx : evO l x = some (.pointer (some ⟨b, i, none⟩))) (hy : evO l y = some v) (hT : (P.info? T).map (·.size) = some 1) (h1 : v.cells = #[v]) (h2 : v.oneCell' = true) (hi : i < n) :
    HO P ⟨none, .store T x y, ty, pos, after, g⟩ Q N l (Hp w0 F (own e 1 (some (b, c)) n xs :: m)) (α := Unit) (fun _ => l) (fun _ => Hp w0 F (own e 1 (some (b, c)) n (xs.set i v) :: m)) :=
  o_skip hok (fun w hw => by
    have hp := (hw.item (own e 1 (some (b, c)) n xs) (by simp)).1
    refine ⟨(), w.setCell ⟨b, i, none⟩ v, ?_, hp_setOwn hw v⟩
    have hl : i < xs.length := by rw [hp.1]; omega
    have hc := own_rd hp i _ (List.getElem?_eq_getElem hl)
    have hf : w.frozen? ⟨b, i, none⟩ = false := own_frozen hp
    cases hq : P.info? T with
    | none => simp [hq] at hT
    | some q =>
      have hs : q.size = 1 := by simpa [hq] using hT
      cases v <;> simp [execOp, ev_of hx, ev_of hy, Instr.storeAt, Instr.sureAddr, storeVar, sizeOf, typeInfo, hq, hs, h1, storeCells, store, Addr.add, Sem.run, hc, hf] at h2 ⊢ <;> cases h2)
/-- A cell of a row. -/
theorem v_loadown {T e : TypeId} {x : Operand} {b i c n sz : Nat} {v : Value} {xs : List Value} (hx : evO l x = some (.pointer (some ⟨b, i, none⟩))) (hT : oneOf P T = true) (hm : own e sz (some (b, c)) n xs ∈ m) (hv : xs[i]? = some v) : OV P (.load T x) ty l (Hp w0 F m) v :=
  v_load hx hT (fun _ hw => own_rd (hw.item _ hm).1 i v hv)
/-- The front of a row. -/
theorem Hp.front {w : World} {e : TypeId} {sz n b c : Nat} {xs : List Value} (hw : Hp w0 F (own e sz (some (b, c)) n xs :: m) w) (k : Nat) (hk : k ≤ n) : Hp w0 F (own e sz (some (b, c)) k (xs.take (k * sz)) :: m) w :=
  hw.imp (fun _ h => h) (fun h => by
    obtain ⟨h1, h2, cur, h3, h4, h5⟩ := h.2
    have : k * sz ≤ n * sz := Nat.mul_le_mul_right _ hk
    exact ⟨by have := h.1; rw [List.length_take]; omega, by omega, h2, cur, h3, h4, by rw [← h5, List.take_take, Nat.min_eq_left this]⟩) (own_stable _ _ _ _ _ _)
theorem v_lT {T e : TypeId} {x y : Operand} {p : Option Addr} {n c sz : Nat} {k : IntKind} {a : Int} {i : Nat} [h : NatOf a i] (hx : evO l x = some (.slice p n c)) (hy : evO l y = some (.int k a)) (hT : sliE P T = some e) (he : cellsT P e = some sz) (hi : i ≤ c) : OV P (.slice T x none (some y) none) ty l H (.slice p i c) := ov fun _ _ _ w _ => by
  obtain rfl := h.eq
  have hu := sliE_spec hT
  have hu' : P.underlying T = some (.slice (P.elem T)) := by rw [hu]; simp [Program.elem, hu]
  have he' : P.elem T = e := by simp [Program.elem, hu]
  obtain ⟨q, hq, hqs⟩ := cellsT_spec he
  have h := run_slice_h (P := P) w T p n c hu' k i (by omega) (by omega)
  have hz : (sizeOf (P.elem T)).run P w = .ok sz w := by rw [he']; simp [sizeOf, typeInfo, hq, hqs]
  simp only [execOp, ev_of hx, Option.map_some, Option.map_none, ev_of hy, Sem.run_bind, run_sliceAt_slice w T _ _ _ _ hu', h, hz, Result.andThen_ok, Int.toNat_natCast, sliced]
  cases p <;> simp [Sem.run_pure, Addr.add]
theorem v_min {T : Array TypeId} {x y : Operand} {k k' : IntKind} {a b : Int} {i j : Nat} [h : NatOf a i] [h' : NatOf b j] (hx : evO l x = some (.int k a)) (hy : evO l y = some (.int k' b)) : OV P (.call ⟨.builtin .min, #[x, y], T⟩) ty l H (.int k (min i j : Nat)) := ov fun _ _ _ w _ => by
  obtain rfl := h.eq; obtain rfl := h'.eq
  simp only [execOp, resolve, invoke, builtin]
  simp [ev_of hx, ev_of hy, run_min_int2]
  split <;> omega
/-- A number of another kind. -/
def intK (P : Program) (T : TypeId) : Option IntKind := match P.underlying T with | some (.int k) => some k | _ => none
theorem intK_spec {T : TypeId} {k : IntKind} (h : intK P T = some k) : P.underlying T = some (.int k) := by
  unfold intK at h
  split at h
  · rename_i hu; rw [hu, Option.some.inj h]
  · cases h
theorem v_cv {S T : TypeId} {x : Operand} {k k' : IntKind} {a : Int} {n L : Nat} [h : NatOf a n] [hL : Lim k' L] (hx : evO l x = some (.int k a)) (hS : (P.underlying S).isSome = true) (hT : intK P T = some k') (hn : n < L) : OV P (.convert S T x) ty l H (.int k' (n : Int)) := ov fun _ _ _ w _ => by
  obtain rfl := h.eq
  obtain ⟨u, hu⟩ := Option.isSome_iff_exists.1 hS
  simp only [execOp, ev_of hx, convert, Sem.run_bind, run_underlying hu w, run_underlying (intK_spec hT) w, Result.andThen_ok, Conv.intToInt, Sem.run_pure, hL.wrap n hn]
/-! ### what memory tells -/
theorem l_fact {p : Prop} (hf : ∀ w, H w → p) (k : p → HL P ops Q N rest l H) : HL P ops Q N rest l H := by
  unfold HL at *; exact fun a w s hw => k (hf w hw) a w s hw
theorem t_fact {c : Code} {p : Prop} (hf : ∀ w, H w → p) (k : p → HT P c Q N l H) : HT P c Q N l H := by
  unfold HT at *; exact fun a w s hw => k (hf w hw) a w s hw
theorem x_fact {e : Exit} {p : Prop} (hf : ∀ w, H w → p) (k : p → HX Q e N l H) : HX Q e N l H := by
  unfold HX at *; exact fun a w s hw => k (hf w hw) a w s hw
theorem d_fact {n : Nat} {listed : Array Bool} {p : Prop} (hf : ∀ w, H w → p) (k : p → HD P ops Q S t N n listed l H) : HD P ops Q S t N n listed l H := by
  unfold HD at *; exact fun i a w s hw => k (hf w hw) i a w s hw
/-! ### calls that hand over items -/
theorem l_ctg {f : FuncId} {xs : List Operand} {tys : Array TypeId} {vs : List Value} {α : Type} {val : α → Value} {φ : α → Prop} {its : α → List Item} (hg : okG ops l g = true) (hok : okOp N l (.call ⟨.value (.func f), xs.toArray, tys⟩) d = true) (hb : hasBody P f = true) (hx : evs l xs = some vs)
    (hc : ∀ w, Hp w0 F m w → Ct P f vs.toArray w none' val φ its) (k : ∀ x, φ x → HL P ops Q N rest ((d, val x) :: l) (Hp w0 F (its x ++ m))) : HL P ops Q N (⟨some d, .call ⟨.value (.func f), xs.toArray, tys⟩, ty, pos, after, g⟩ :: rest) l (Hp w0 F m) :=
  l_opg hg (o_ct hok hb hx hc) fun x => k x.1 x.2
theorem d_ctg (i : Nat) {f : FuncId} {xs : List Operand} {tys : Array TypeId} {vs : List Value} {n : Nat} {listed : Array Bool} {α : Type} {val : α → Value} {φ : α → Prop} {its : α → List Item} {m0 : List Item} (hr0 : Region.ready .any ops listed = [i] ∧ i < t) (hi0 : nth ops.toList i = some ⟨some d, .call ⟨.value (.func f), xs.toArray, tys⟩, ty, pos, after, g⟩) (hg : okG ops l g = true)
    (hok : okOp N l (.call ⟨.value (.func f), xs.toArray, tys⟩) d = true) (hb : hasBody P f = true) (hx : evs l xs = some vs) (hS : ∀ w, Hp w0 F m w → Hp w0 F m0 w)
    (hc : ∀ w, Hp w0 F m w → Ct P f vs.toArray w none' val φ its) (k : ∀ x, φ x → HD P ops Q (Hp w0 F (its x ++ m)) t N n (listed.setIfInBounds i true) ((d, val x) :: l) (Hp w0 F (its x ++ m))) : HD P ops Q (Hp w0 F m0) t N (n + 1) listed l (Hp w0 F m) :=
  d_opg i hr0 hi0 hg (o_ct hok hb hx hc) (fun _ w h => hS w (h.sub (List.sublist_append_right _ _))) fun x => d_up (fun w h => hS w (h.sub (List.sublist_append_right _ _))) (k x.1 x.2)
/-! ### function values -/
theorem o_pureF {f : FuncId} {x : Operand} {fs cs : List Value} {xs : List Operand} {tys : Array TypeId} {vs us : List Value} {v : Value} (hok : okOp N l (.call ⟨.value x, xs.toArray, tys⟩) d = true) (hb : hasBody P f = true) (hf : evO l x = some (.func (.func f) fs.toArray cs.toArray)) (hx : evs l xs = some vs) (hu : fs ++ (vs ++ cs) = us)
    (hc : ∀ w, Hp w0 F m w → Pu P f us.toArray w v) : HO P ⟨some d, .call ⟨.value x, xs.toArray, tys⟩, ty, pos, after, g⟩ Q N l (Hp w0 F m) (α := Unit) (fun _ => (d, v) :: l) (fun _ => Hp w0 F m) :=
  o_call (val := fun _ => v) hok (entersF hf hb hx hu) (fun w hw => (hc w hw).calls.mono fun _ _ ⟨he, hf⟩ => ⟨(), he, hw.keep hf⟩)
/-! ### slices of strings -/
def strs (L : List ByteArray) : List Value := L.map Value.string
structure StrL (w : World) (a : Option Addr) (c : Nat) (L : List ByteArray) : Prop where
  rd : Rd w a (strs L)
  cap : L.length ≤ c
theorem strs_at {L : List ByteArray} {i : Nat} (h : i < L.length) : (strs L)[i]? = some (.string L[i]) := by simp [strs, h]
theorem slAt_add {b off c i sz : Nat} (hc : c ≠ i) : slAt (some ⟨b, off, none⟩) (decide (c = i)) (i * sz) = some ⟨b, off + i * sz, none⟩ := by
  simp only [slAt, decide_eq_false hc, Bool.false_eq_true, if_false, Option.map_some, add_at]
theorem StrL.drop {w : World} {a : Option Addr} {c : Nat} {L : List ByteArray} (h : StrL w a c L) (i : Nat) (hi : i ≤ L.length) : StrL w (slAt a (decide (c = i)) (i * 1)) (c - i) (L.drop i) := by
  refine ⟨?_, by have := h.cap; simp; omega⟩
  by_cases e : L.drop i = []
  · exact .inl (by rw [e]; rfl)
  · have hlt : i < L.length := by simpa using e
    have := h.cap
    rcases h.rd with h1 | ⟨b, off, rfl, h2⟩
    · simp [strs] at h1; subst h1; simp at hlt
    · refine .inr ⟨b, off + i * 1, slAt_add (by omega), fun j u hu => ?_⟩
      rw [show off + i * 1 + j = off + (i + j) by omega]
      refine h2 _ _ ?_
      simpa [strs] using hu
theorem StrL.keep {w : World} {a : Option Addr} {c : Nat} {L : List ByteArray} (h : StrL w0 a c L) (hw : Hp w0 none' m w) : StrL w a c L := ⟨h.rd.keep hw, h.cap⟩
theorem StrL.fr {w : World} {a : Option Addr} {c : Nat} {L : List ByteArray} (h : StrL w0 a c L) (hw : Fr none' w0 w) : StrL w a c L := ⟨h.rd.fr hw, h.cap⟩
theorem StrL.at_ {w : World} {a : Option Addr} {c : Nat} {L : List ByteArray} (h : StrL w a c L) (h0 : 0 < L.length) : ∃ b off, a = some ⟨b, off, none⟩ ∧ ∀ i (hi : i < L.length), w.cell? ⟨b, off + i, none⟩ = some (.string L[i]) := by
  rcases h.rd with h1 | ⟨b, off, rfl, h2⟩
  · simp [strs] at h1; subst h1; simp at h0
  · exact ⟨b, off, rfl, fun i hi => h2 i _ (strs_at hi)⟩
theorem own_StrL {w : World} {e : TypeId} {n : Nat} {o : Option (Nat × Nat)} {L : List ByteArray} (h : (own e 1 o n (strs L)).prop w) : n = L.length ∧ StrL w (slA o) (slC o) L := by
  have h1 := h.1
  have hn : n = L.length := by simpa [strs] using h1.symm
  exact ⟨hn, own_Rd h, by rw [← hn]; exact (own_val h).2⟩
/-! ### one step, whatever it is -/
theorem s_ {G X : Prop} (k : G) (h : G → X := by first | with_reducible (first | exact t_seq | exact t_region | exact t_block | exact t_ret | exact t_skip | exact t_exit | exact l_nil | exact x_then | exact x_pass_exit | exact x_pass_ret | exact x_block_ret | exact x_block_normal | exact x_block_here | fail) | with_reducible exact x_block_out rfl | exact l_w rfl (by first | exact v_move rfl | exact v_assign rfl | exact v_bt rfl rfl | exact v_extract rfl rfl | exact v_field0 rfl rfl | exact v_field rfl rfl | exact v_lens rfl rfl | exact v_lenstr rfl rfl | exact v_nt rfl | exact v_load1p rfl rfl (by repeat first | exact .head _ | apply List.Mem.tail) | exact v_loadp rfl rfl (by repeat first | exact .head _ | apply List.Mem.tail) rfl | exact v_loada rfl rfl (by repeat first | exact .head _ | apply List.Mem.tail) | exact v_eqb rfl rfl rfl | ((first | refine v_bn rfl rfl ?_ | refine v_is1 rfl rfl rfl ?_ | refine v_ia1 rfl rfl rfl ?_ | refine v_sa rfl rfl rfl ?_ | refine v_sF rfl rfl rfl ?_ | refine v_sT rfl rfl rfl ?_ | refine v_sFT rfl rfl rfl rfl ?_ | refine v_lF rfl rfl rfl rfl ?_ | refine v_is rfl rfl rfl ?_ | refine v_ia rfl rfl rfl ?_); first | omega | assumption | fail) | exact v_pT rfl rfl (by first | omega | assumption | (simp; done) | fail) | exact v_pF rfl rfl (by first | omega | assumption | (simp; done) | fail) | exact v_pickB rfl rfl rfl | fail) | exact l_no rfl | exact t_T rfl rfl (by first | omega | assumption | (simp; done) | fail) | exact t_F rfl rfl (by first | omega | assumption | (simp; done) | fail) | exact l_T rfl rfl (by first | omega | assumption | (simp; done) | fail) | exact l_F rfl rfl (by first | omega | assumption | (simp; done) | fail) | fail) : X := h k
/-- .. of a region that draws. -/
theorem d_ {G X : Prop} (k : G) (h : G → X := by first | exact d_w [] rfl rfl rfl (by kernel_rfl) (fun _ h => h) (by first | exact v_move rfl | exact v_assign rfl | exact v_bt rfl rfl | exact v_extract rfl rfl | exact v_field0 rfl rfl | exact v_field rfl rfl | exact v_lens rfl rfl | exact v_lenstr rfl rfl | exact v_nt rfl | exact v_load1p rfl rfl (by repeat first | exact .head _ | apply List.Mem.tail) | exact v_loadp rfl rfl (by repeat first | exact .head _ | apply List.Mem.tail) rfl | exact v_loada rfl rfl (by repeat first | exact .head _ | apply List.Mem.tail) | exact v_eqb rfl rfl rfl | ((first | refine v_bn rfl rfl ?_ | refine v_is1 rfl rfl rfl ?_ | refine v_ia1 rfl rfl rfl ?_ | refine v_sa rfl rfl rfl ?_ | refine v_sF rfl rfl rfl ?_ | refine v_sT rfl rfl rfl ?_ | refine v_sFT rfl rfl rfl rfl ?_ | refine v_lF rfl rfl rfl rfl ?_ | refine v_is rfl rfl rfl ?_ | refine v_ia rfl rfl rfl ?_); first | omega | assumption | fail) | exact v_pT rfl rfl (by first | omega | assumption | (simp; done) | fail) | exact v_pF rfl rfl (by first | omega | assumption | (simp; done) | fail) | exact v_pickB rfl rfl rfl | fail) | exact d_no [] rfl rfl rfl (by kernel_rfl) (fun _ h => h) | exact d_T [] rfl rfl rfl rfl (by first | omega | assumption | (simp; done) | fail) | exact d_F [] rfl rfl rfl rfl (by first | omega | assumption | (simp; done) | fail) | fail) : X := h k
end Go.Eng

namespace Go.Eng
open Go.RowKit
variable {P : Program} {Q : Exit → Act → World → Prop} {N : Fm} {l : Slots} {H : World → Prop} {ops : Array Oper} {rest : List Oper} {w0 : World} {F : Nat → Prop} {m : List Item} {ty : TypeId} {pos : String} {after : Array Edge} {g : Option (Nat × Bool)} {d : Nat}
/-! ### elements of several cells -/
def rowsV {α : Type} (enc : α → List Value) (L : List α) : List Value := L.flatMap enc
section
variable {α : Type} {enc : α → List Value} {sz : Nat}
theorem rowsV_length (hsz : ∀ a, (enc a).length = sz) (L : List α) : (rowsV enc L).length = L.length * sz := by
  induction L with
  | nil => simp [rowsV]
  | cons a L ih => simp only [rowsV, List.flatMap_cons, List.length_append, List.length_cons] at ih ⊢; rw [ih, hsz, Nat.add_mul, Nat.one_mul, Nat.add_comm]
theorem rowsV_append (L M : List α) : rowsV enc (L ++ M) = rowsV enc L ++ rowsV enc M := by simp [rowsV]
theorem rowsV_one (a : α) : rowsV enc [a] = enc a := by simp [rowsV]
theorem rowsV_cons (a : α) (L : List α) : rowsV enc (a :: L) = enc a ++ rowsV enc L := by simp [rowsV]
theorem rowsV_take (hsz : ∀ a, (enc a).length = sz) (L : List α) (i : Nat) : rowsV enc (L.take i) = (rowsV enc L).take (i * sz) := by
  induction L generalizing i with
  | nil => simp [rowsV]
  | cons a L ih =>
    cases i with
    | zero => simp [rowsV]
    | succ i =>
      have h1 : (enc a).take ((i + 1) * sz) = enc a := List.take_of_length_le (by rw [hsz, Nat.add_mul]; omega)
      have h2 : (i + 1) * sz - (enc a).length = i * sz := by rw [hsz, Nat.add_mul]; omega
      rw [List.take_succ_cons, rowsV_cons, rowsV_cons, ih, List.take_append, h1, h2]
theorem rowsV_drop (hsz : ∀ a, (enc a).length = sz) (L : List α) (i : Nat) : rowsV enc (L.drop i) = (rowsV enc L).drop (i * sz) := by
  induction L generalizing i with
  | nil => simp [rowsV]
  | cons a L ih =>
    cases i with
    | zero => simp [rowsV]
    | succ i =>
      have h1 : (enc a).drop ((i + 1) * sz) = [] := List.drop_of_length_le (by rw [hsz, Nat.add_mul]; omega)
      have h2 : (i + 1) * sz - (enc a).length = i * sz := by rw [hsz, Nat.add_mul]; omega
      rw [List.drop_succ_cons, rowsV_cons, ih, List.drop_append, h1, h2, List.nil_append]
theorem rowsV_at (hsz : ∀ a, (enc a).length = sz) {L : List α} {i : Nat} (hi : i < L.length) {j : Nat} (hj : j < sz) : (rowsV enc L)[i * sz + j]? = (enc L[i])[j]? := by
  have h := rowsV_drop hsz L i
  rw [List.drop_eq_getElem_cons hi, rowsV_cons] at h
  have h2 := congrArg (fun x => x[j]?) h
  simp only [List.getElem?_drop] at h2
  rw [← h2, List.getElem?_append_left (by rw [hsz]; exact hj)]
end
/-- What is read of a slice that has elements. -/
theorem Rd.at_ {w : World} {a : Option Addr} {xs : List Value} (h : Rd w a xs) (h0 : xs ≠ []) : ∃ b off, a = some ⟨b, off, none⟩ ∧ w.rangeAt b off xs := by
  rcases h with h | ⟨b, off, h1, h2⟩
  · exact absurd h h0
  · exact ⟨b, off, h1, h2⟩
theorem Rd.row {w : World} {b off : Nat} {α : Type} {enc : α → List Value} {sz : Nat} (hsz : ∀ a, (enc a).length = sz) {L : List α} (h : w.rangeAt b off (rowsV enc L)) {i : Nat} (hi : i < L.length) : w.rangeAt b (off + i * sz) (enc L[i]) := fun j v hv => by
  have hj : j < sz := by have := (List.getElem?_eq_some_iff.1 hv).1; rwa [hsz] at this
  rw [Nat.add_assoc]
  exact h _ _ (by rw [rowsV_at hsz hi hj]; exact hv)
theorem Rd.mk {w : World} {b off : Nat} {xs : List Value} (h : w.rangeAt b off xs) : Rd w (some ⟨b, off, none⟩) xs := .inr ⟨b, off, rfl, h⟩
theorem rangeAt_take {w : World} {b off k : Nat} {xs : List Value} (h : w.rangeAt b off xs) : w.rangeAt b off (xs.take k) := fun j v hv => by
  rw [List.getElem?_take] at hv
  split at hv
  · exact h j v hv
  · cases hv
theorem rangeAt_drop {w : World} {b off k : Nat} {xs : List Value} (h : w.rangeAt b off xs) : w.rangeAt b (off + k) (xs.drop k) := fun j v hv => by
  rw [List.getElem?_drop] at hv
  rw [Nat.add_assoc]; exact h _ v hv
theorem rangeAt_old {w : World} {b off : Nat} {xs : List Value} (h : w0.rangeAt b off xs) (hF : ¬ F b) (hw : Hp w0 F m w) : w.rangeAt b off xs := fun j v hv => hw.old hF (h j v hv)
theorem rangeAt_pt {w : World} {b : Nat} {cs : List Value} {E : TypeId} {fz : Nat × Nat} (h : w.heap[b]? = some (.cells cs.toArray E fz)) : w.rangeAt b 0 cs := fun j v hv => by
  rw [Nat.zero_add, cell_of_row w b j _ E fz h]; simpa using hv
theorem rangeAt_own {w : World} {e : TypeId} {sz n b c : Nat} {xs : List Value} (h : (own e sz (some (b, c)) n xs).prop w) : w.rangeAt b 0 xs := fun j v hv => by rw [Nat.zero_add]; exact own_rd h j v hv
/-- Load of a variable of many cells, wherever it lies. -/
theorem v_loadc {T : TypeId} {x : Operand} {b off : Nat} {xs : List Value} (hx : evO l x = some (.pointer (some ⟨b, off, none⟩))) (hT : rowOf P T = some xs.length)
    (hr : ∀ w, H w → w.rangeAt b off xs) : OV P (.load T x) ty l H (.agg xs.toArray) := ov fun _ _ _ w hw => by
  have hl : (loadVar T ⟨b, off, none⟩).run P w = .ok (.agg xs.toArray) w := by
    unfold rowOf at hT
    split at hT
    · rename_i hu; exact run_loadVar_mid (P := P) w b off T _ _ (hr w hw) hu rfl hT
    · rename_i hu; exact run_loadVar_mid (P := P) w b off T _ _ (hr w hw) hu rfl hT
    · cases hT
  simp only [execOp, ev_of hx, Instr.loadAt, Instr.sureAddr, Sem.run_bind, Sem.run_pure, Result.andThen_ok, hl]
theorem v_loadcE {T : TypeId} {x : Operand} {b off : Nat} {xs : List Value} {c : Array Value} (hx : evO l x = some (.pointer (some ⟨b, off, none⟩))) (hT : rowOf P T = some xs.length)
    (hr : ∀ w, H w → w.rangeAt b off xs) (hc : xs.toArray = c) : OV P (.load T x) ty l H (.agg c) := by subst hc; exact v_loadc hx hT hr
/-! ### writes into a block -/
/-- A store of several cells. -/
def put (cs : List Value) (off : Nat) (vs : List Value) : List Value := cs.take off ++ vs ++ cs.drop (off + vs.length)
theorem put_length {cs : List Value} {off : Nat} {vs : List Value} (h : off + vs.length ≤ cs.length) : (put cs off vs).length = cs.length := by
  simp [put]; omega
theorem Hp.setRow {w : World} {b : Nat} {cur : Array Value} {E : TypeId} {fz : Nat × Nat} (hw : Hp w0 F (pt b (.cells cur E fz) :: m) w) (cs' : Array Value) : Hp w0 F (pt b (.cells cs' E fz) :: m) (w.setRow b cs') :=
  hw.turn _ (setRow_heap w b cur cs' E fz (hw.get (by simp))) (fun k hk => setRow_other w b k _ hk) (by simp) rfl rfl rfl
theorem o_storer {T : TypeId} {x y : Operand} {b off : Nat} {cs : List Value} {vs : Array Value} {E : TypeId} (hok : (noSel (.store T x y) && known l (.store T x y)) = true)
    (hx : evO l x = some (.pointer (some ⟨b, off, none⟩))) (hy : evO l y = some (.agg vs)) (hT : (P.info? T).map (·.size) = some vs.size) (h1' : oneAll vs.toList = true) (hs : off + vs.size ≤ cs.length) :
    HO P ⟨none, .store T x y, ty, pos, after, g⟩ Q N l (Hp w0 F (pt b (.cells cs.toArray E (0, 0)) :: m)) (α := Unit) (fun _ => l) (fun _ => Hp w0 F (pt b (.cells (put cs off vs.toList).toArray E (0, 0)) :: m)) :=
  o_skip hok (fun w hw => by
    have hb := hw.get (b := b) (o := .cells cs.toArray E (0, 0)) (by simp)
    have hst := run_storeCells_at P b off E vs.toList 0 cs.toArray w hb (by simpa using hs) (oneAll_iff.1 h1')
    refine ⟨(), w.setRow b (put cs off vs.toList).toArray, ?_, hw.setRow _⟩
    cases hq : P.info? T with
    | none => simp [hq] at hT
    | some i =>
      have hsz : i.size = vs.size := by simpa [hq] using hT
      simp only [Nat.add_zero] at hst
      simp [execOp, ev_of hx, ev_of hy, Instr.storeAt, Instr.sureAddr, storeVar, sizeOf, typeInfo, hq, Value.cells, hsz]
      rw [hst]
      simp [put])
/-- copy of elements of whatever size. -/
theorem run_copy_rows (w : World) (dT sT ty elem : TypeId) (sz b o dLen dCap : Nat) (a : Option Addr) (sLen sCap : Nat) (cur : Array Value) (t : TypeId) (cs : List Value)
    (hu : P.underlying dT = some (.slice elem)) (hs : (P.info? elem).map (·.size) = some sz) (hg : w.heap[b]? = some (.cells cur t (0, 0))) (hn : cs.length = Nat.min sLen dLen * sz)
    (hsrc : Rd w a cs) (h0 : a = none → sLen = 0) (hfit : o + cs.length ≤ cur.size) (h1 : ∀ v ∈ cs, v.oneCell' = true) :
    (Builtin.copy_ #[dT, sT] ty #[.slice (some ⟨b, o, none⟩) dLen dCap, .slice a sLen sCap]).run P w = .ok (goInt (Nat.min sLen dLen)) (w.setRow b (put cur.toList o cs).toArray) := by
  have hst := run_storeCells_at P b o t cs 0 cur w hg (by simpa using hfit) h1
  simp only [Nat.add_zero] at hst
  cases hq : P.info? elem with
  | none => simp [hq] at hs
  | some i =>
    have hi : i.size = sz := by simpa [hq] using hs
    cases a with
    | none =>
      obtain rfl := h0 rfl
      have hmin : Nat.min 0 dLen = 0 := Nat.zero_min _
      rw [hmin, Nat.zero_mul] at hn
      obtain rfl : cs = [] := List.eq_nil_of_length_eq_zero hn
      simp [Builtin.copy_, run_underlying hu, Builtin.lenOf, Builtin.firstCells, sizeOf, typeInfo, hq, hmin]
      simp [storeCells]
      simp [put]
      exact (setRow_self w b cur t (0, 0) hg).symm
    | some a =>
      have hl : ∀ k, cs.length = k → (loadCells a k).run P w = .ok cs.toArray w := fun k hk => by
        subst hk
        refine run_loadCells_list (P := P) w a cs fun j v hv => ?_
        rcases hsrc with h | ⟨b', off', h, h2⟩
        · subst h; simp at hv
        · obtain rfl := Option.some.inj h
          rw [add_at]; exact h2 j v hv
      have := hl _ hn
      simp [Builtin.copy_, run_underlying hu, Builtin.lenOf, Builtin.firstCells, sizeOf, typeInfo, hq, hi, this]
      rw [hst]
      simp [put]
theorem o_copyr {dT sT e : TypeId} {x y : Operand} {b o n c sLen sCap sz : Nat} {a : Option Addr} {cur cs : List Value} {t : TypeId} (hok : okOp N l (.call ⟨.builtin .copy, #[x, y], #[dT, sT]⟩) d = true)
    (hx : evO l x = some (.slice (some ⟨b, o, none⟩) n c)) (hy : evO l y = some (.slice a sLen sCap)) (hT : sliE P dT = some e) (he : cellsT P e = some sz) (hn : cs.length = min sLen n * sz)
    (hsrc : ∀ w, Hp w0 F (pt b (.cells cur.toArray t (0, 0)) :: m) w → Rd w a cs) (h0 : a = none → sLen = 0) (hfit : o + cs.length ≤ cur.length) (h1 : oneAll cs = true) :
    HO P ⟨some d, .call ⟨.builtin .copy, #[x, y], #[dT, sT]⟩, ty, pos, after, g⟩ Q N l (Hp w0 F (pt b (.cells cur.toArray t (0, 0)) :: m)) (α := Unit) (fun _ => (d, .int .i64 (min sLen n : Nat)) :: l) (fun _ => Hp w0 F (pt b (.cells (put cur o cs).toArray t (0, 0)) :: m)) :=
  o_mem (val := fun _ => .int .i64 (min sLen n : Nat)) hok (fun w hw => by
    obtain ⟨i, hi, his⟩ := cellsT_spec he
    have hr := run_copy_rows (P := P) w dT sT ty e sz b o n c a sLen sCap cur.toArray t cs (sliE_spec hT) (by rw [hi, Option.map_some, his]) (hw.get (by simp)) hn (hsrc w hw) h0 (by simpa using hfit) (oneAll_iff.1 h1)
    refine ⟨(), _, ?_, hw.setRow _⟩
    simp only [execOp, resolve, invoke, builtin]
    simp [ev_of hx, ev_of hy, hr, goInt])
/-! ### make -/
theorem o_maker {T e : TypeId} {x y : Operand} {n b sz : Nat} {z : Value} {k1 k2 : IntKind} {i j : Int} [h : NatOf i n] [h' : NatOf j n] (hok : okOp N l (.makeSlice T x y) d = true) (hx : evO l x = some (.int k1 i)) (hy : evO l y = some (.int k2 j))
    (hT : sliE P T = some e) (hi : infoE P e = some (sz, b, z)) (hb : (b + 1) * n ≤ 281474976710656) :
    HO P ⟨some d, .makeSlice T x y, ty, pos, after, g⟩ Q N l (Hp w0 F m) (α := { c : Nat // w0.heap.size ≤ c }) (fun c => (d, .slice (some ⟨c.1, 0, none⟩) n n) :: l) (fun c => Hp w0 F (pt c.1 (.cells (zerosL z (n * sz)).toArray e (0, 0)) :: m)) := by
  obtain rfl := h.eq; obtain rfl := h'.eq
  exact o_mem (val := fun c : { b : Nat // w0.heap.size ≤ b } => .slice (some ⟨c.1, 0, none⟩) n n) hok (fun w hw => by
    obtain ⟨q, h1, h2, h3, h4⟩ := infoE_spec hi
    have hb' : b * n + n ≤ 281474976710656 := by rwa [Nat.add_mul, Nat.one_mul] at hb
    refine ⟨⟨w.heap.size, hw.fr.size⟩, w.alloc (.cells (zerosL z (n * sz)).toArray e), ?_, hw.alloc _⟩
    have hr := run_make (P := P) w T e q z (sliE_spec hT) h1 h4 k1 k2 n n (by omega) (by omega) (by rw [h3]; generalize hq : b * n = q at hb'; rw [← Int.natCast_mul, hq]; omega) (by generalize b * n = q at hb'; omega)
    have hm : madeCells z.cells (n * sz) = (zerosL z (n * sz)).toArray := by
      apply Array.ext'
      simp [madeCells, zerosL, Array.toList_range]
    rw [h2, Int.toNat_natCast, hm] at hr
    simp only [execOp, ev_of hx, ev_of hy, Sem.run_bind, hr, Result.andThen_ok, Sem.run_pure])
/-! ### append to what is full -/
theorem o_appfull {T T' e : TypeId} {x y : Operand} {o : Option Addr} {a : Addr} {n k c sz b : Nat} {xs news : List Value} (hok : okOp N l (.call ⟨.builtin .append, #[x, y], #[T, T]⟩) d = true) (hx : evO l x = some (.slice o n n)) (hy : evO l y = some (.slice (some a) k c))
    (hT : sliE P T = some e) (hi : infoF P e = some (sz, b, sz)) (hxl : xs.length = n * sz) (hl : news.length = k * sz) (hk : 0 < k) (hn : (n + k) * (b + 1) ≤ 140737488355328) (ho : o = none → n = 0)
    (hxs : ∀ w, Hp w0 F m w → Rd w o xs) (hnews : ∀ w, Hp w0 F m w → ∀ (j : Nat) (v : Value), news[j]? = some v → w.cell? (a.add j) = some v) :
    HO P ⟨some d, .call ⟨.builtin .append, #[x, y], #[T, T]⟩, T', pos, after, g⟩ Q N l (Hp w0 F m) (α := { p : Nat × Nat // w0.heap.size ≤ p.1 }) (fun p => (d, slV (some p.1) (n + k)) :: l) (fun p => Hp w0 F (own e sz (some p.1) (n + k) (xs ++ news) :: m)) :=
  o_mem (val := fun p : { p : Nat × Nat // w0.heap.size ≤ p.1 } => slV (some p.1) (n + k)) hok (fun w hw => by
    obtain ⟨i, z, h1', h2, h3, h4, h5⟩ := infoF_spec hi
    subst h2
    subst h3
    have hle : (n + k) * i.bytes + (n + k) ≤ 140737488355328 := by rwa [Nat.mul_add, Nat.mul_one] at hn
    have hmx : n + k ≤ maxLen := by unfold maxLen; generalize (n + k) * i.bytes = q at hle; omega
    have grown : (own e i.size (some (w.heap.size, grownCap w (n + k) n e)) (n + k) (xs ++ news)).prop (w.drew.alloc (.cells (xs.toArray ++ news.toArray ++ Builtin.zeroCells z.cells (grownCap w (n + k) n e - (n + k))) e)) := by
      have hge := grownCap_ge w (n + k) n e
      have hlen : (xs ++ news).length = (n + k) * i.size := by rw [List.length_append, hxl, hl, Nat.add_mul]
      refine ⟨hlen, hge, grownCap_le_maxLen w (n + k) n e hmx, _, heap_alloc_new w.drew _, ?_, ?_⟩
      · simp only [Array.size_append, List.size_toArray, size_zeroCells, h5, hxl, hl, ← Nat.add_mul]
        congr 1
        omega
      · simp only [Array.toList_append, List.append_assoc]
        rw [← List.append_assoc, ← hlen]
        exact List.take_left
    refine ⟨⟨(w.heap.size, grownCap w (n + k) n e), hw.fr.size⟩, _, ?_, hw.drew.newOwn grown⟩
    cases o with
    | none =>
      obtain rfl := ho rfl
      have e0 : xs = [] := List.eq_nil_of_length_eq_zero (by simpa using hxl)
      subst e0
      have hr := run_append_nil (P := P) w T T' e i z (sliE_spec hT) h1' h4 a k c news hl (hnews w hw) hk (by unfold maxLen at hmx; omega) (by rw [Nat.zero_add] at hle; generalize k * i.bytes = q at hle ⊢; omega)
      simp only [execOp, resolve, invoke, builtin]
      simp [ev_of hx, ev_of hy, hr, slV]
    | some b =>
      have hb : ∀ j v, xs[j]? = some v → w.cell? (b.add j) = some v := fun j v hv => by
        rcases hxs w hw with h | ⟨b', off', h, h2⟩
        · subst h; simp at hv
        · obtain rfl := Option.some.inj h
          rw [add_at]; exact h2 j v hv
      have hr := run_append_grow (P := P) w T T' e i z (sliE_spec hT) h1' h4 b n n xs hxl hb a k c news hl (hnews w hw) (by omega) (by unfold maxLen at hmx; omega) (growslice_fits (by omega) (by generalize (n + k) * i.bytes = q at hle ⊢; omega))
      simp only [execOp, resolve, invoke, builtin]
      simp [ev_of hx, ev_of hy, hr, slV])
/-! ### slicing -/
theorem v_sl3 {T e : TypeId} {x y z : Operand} {a : Option Addr} {n c sz : Nat} {k k' : IntKind} {p q : Int} {i j : Nat} [h : NatOf p i] [h' : NatOf q j] (hx : evO l x = some (.slice a n c)) (hy : evO l y = some (.int k p)) (hz : evO l z = some (.int k' q)) (hT : sliE P T = some e) (he : cellsT P e = some sz) (hi : i ≤ j ∧ j ≤ c) :
    OV P (.slice T x none (some y) (some z)) ty l H (.slice a i j) := ov fun _ _ _ w _ => by
  obtain rfl := h.eq; obtain rfl := h'.eq
  have hu := sliE_spec hT
  have hu' : P.underlying T = some (.slice (P.elem T)) := by rw [hu]; simp [Program.elem, hu]
  have he' : P.elem T = e := by simp [Program.elem, hu]
  obtain ⟨r, hq, hqs⟩ := cellsT_spec he
  have h := run_slice_hm (P := P) w T a n c hu' k k' i j (by omega) (by omega) (by omega)
  have hzz : (sizeOf (P.elem T)).run P w = .ok sz w := by rw [he']; simp [sizeOf, typeInfo, hq, hqs]
  simp only [execOp, ev_of hx, Option.map_some, Option.map_none, ev_of hy, ev_of hz, Sem.run_bind, run_sliceAt_slice w T _ _ _ _ hu', h, hzz, Result.andThen_ok, Int.toNat_natCast, sliced]
  cases a <;> simp [Sem.run_pure, Addr.add]
theorem v_slA {T e : TypeId} {x : Operand} {a : Option Addr} {n c sz : Nat} (hx : evO l x = some (.slice a n c)) (hT : sliE P T = some e) (he : cellsT P e = some sz) : OV P (.slice T x none none none) ty l H (.slice a n c) := ov fun _ _ _ w _ => by
  have hu := sliE_spec hT
  have hu' : P.underlying T = some (.slice (P.elem T)) := by rw [hu]; simp [Program.elem, hu]
  have he' : P.elem T = e := by simp [Program.elem, hu]
  obtain ⟨r, hq, hqs⟩ := cellsT_spec he
  have h := run_slice_all (P := P) w T a n c hu'
  have hzz : (sizeOf (P.elem T)).run P w = .ok sz w := by rw [he']; simp [sizeOf, typeInfo, hq, hqs]
  simp only [execOp, ev_of hx, Option.map_none, Sem.run_bind, run_sliceAt_slice w T _ _ _ _ hu', h, hzz, Result.andThen_ok, sliced]
  cases a <;> simp [Sem.run_pure, Addr.add]
theorem v_slLH {T e : TypeId} {x y z : Operand} {a : Option Addr} {n c sz : Nat} {k k' : IntKind} {p q : Int} {i j : Nat} [h : NatOf p i] [h' : NatOf q j] (hx : evO l x = some (.slice a n c)) (hy : evO l y = some (.int k p)) (hz : evO l z = some (.int k' q)) (hT : sliE P T = some e) (he : cellsT P e = some sz) (hi : i ≤ j ∧ j ≤ c) :
    OV P (.slice T x (some y) (some z) none) ty l H (.slice (slAt a (decide (c = i)) (i * sz)) (j - i) (c - i)) := ov fun _ _ _ w _ => by
  obtain rfl := h.eq; obtain rfl := h'.eq
  have hu := sliE_spec hT
  have hu' : P.underlying T = some (.slice (P.elem T)) := by rw [hu]; simp [Program.elem, hu]
  have he' : P.elem T = e := by simp [Program.elem, hu]
  obtain ⟨r, hq, hqs⟩ := cellsT_spec he
  have h := run_slice_lh (P := P) w T a n c hu' k k' i j (by omega) (by omega) (by omega)
  have hzz : (sizeOf (P.elem T)).run P w = .ok sz w := by rw [he']; simp [sizeOf, typeInfo, hq, hqs]
  simp only [execOp, ev_of hx, Option.map_some, Option.map_none, ev_of hy, ev_of hz, Sem.run_bind, run_sliceAt_slice w T _ _ _ _ hu', h, hzz, Result.andThen_ok, Int.toNat_natCast, sliced, slAt]
  simp [Sem.run_pure]
/-! ### memory that is only read: ghost heaps -/
abbrev Gh := Nat → Option Obj
def Gh.In (h : Gh) (w : World) : Prop := ∀ b o, h b = some o → w.heap[b]? = some o
def Gh.join (h h' : Gh) : Gh := fun b => (h b).or (h' b)
def Gh.one (b : Nat) (o : Obj) : Gh := fun k => if k = b then some o else none
def Gh.nil : Gh := fun _ => none
def Gh.le (h h' : Gh) : Prop := ∀ b o, h b = some o → h' b = some o
def mp (h : Gh) : Item := ⟨fun k => (h k).isSome = true, fun w => h.In w⟩
theorem mp_stable (ro : Nat → Prop) (h : Gh) : (mp h).Stable ro := fun w w' hk hp b o hb => by
  have : (mp h).foot b := by show (h b).isSome = true; rw [hb]; rfl
  rw [hk b (.inr this)]; exact hp b o hb
theorem Gh.join_in {h h' : Gh} {w : World} (h1 : h.In w) (h2 : h'.In w) : (h.join h').In w := fun b o hb => by
  unfold Gh.join at hb
  cases e : h b with
  | some x => rw [e] at hb; exact h1 b o (by rw [e]; simpa using hb)
  | none => rw [e] at hb; exact h2 b o (by simpa using hb)
theorem Gh.le_refl (h : Gh) : h.le h := fun _ _ h => h
theorem Gh.le_left (h h' : Gh) : h.le (h.join h') := fun b o hb => by unfold Gh.join; rw [hb]; rfl
theorem Gh.le_trans {h h' h'' : Gh} (a : h.le h') (b : h'.le h'') : h.le h'' := fun x o hx => b x o (a x o hx)
/-- Of heaps that lie in one memory. -/
theorem Gh.le_right {h h' : Gh} {w : World} (h1 : h.In w) (h2 : h'.In w) : h'.le (h.join h') := fun b o hb => by
  unfold Gh.join
  cases e : h b with
  | some x => have a := h1 b x e; have c := h2 b o hb; rw [a] at c; simpa using c
  | none => simpa using hb
theorem Gh.In.old {h : Gh} {w : World} (h1 : h.In w0) (hF : ∀ b, (h b).isSome = true → ¬ F b) (hw : Hp w0 F m w) : h.In w := fun b o hb => by
  have h2 := h1 b o hb
  rw [hw.fr.block b (Array.getElem?_eq_some_iff.1 h2).1 (hF b (by rw [hb]; rfl))]
  exact h2
theorem Gh.In.fr {h : Gh} {w w' : World} (h1 : h.In w) (hf : Fr none' w w') : h.In w' := fun b o hb => by
  have h2 := h1 b o hb
  rw [hf.block b (Array.getElem?_eq_some_iff.1 h2).1 (fun h => h)]
  exact h2
theorem Gh.In.le {h h' : Gh} {w : World} (h1 : h'.In w) (hl : h.le h') : h.In w := fun b o hb => h1 b o (hl b o hb)
theorem Gh.In.cell {h : Gh} {w : World} (h1 : h.In w) {b : Nat} {cs : List Value} {E : TypeId} {fz : Nat × Nat} (hb : h b = some (.cells cs.toArray E fz)) : w.rangeAt b 0 cs := rangeAt_pt (h1 b _ hb)
/-- Two items of heaps as one. -/
theorem Hp.mpJoin {w : World} {h h' : Gh} (hw : Hp w0 F (mp h :: mp h' :: m) w) : Hp w0 F (mp (h.join h') :: m) w := by
  obtain ⟨a1, a2⟩ := List.pairwise_cons.1 hw.apart
  obtain ⟨a3, a4⟩ := List.pairwise_cons.1 a2
  have f : ∀ k, (mp (h.join h')).foot k → (mp h).foot k ∨ (mp h').foot k := fun k hk => by
    simp only [mp, Gh.join] at hk ⊢
    cases e : h k with
    | some x => exact .inl rfl
    | none => rw [e] at hk; exact .inr (by simpa using hk)
  refine ⟨hw.fr, fun x hx => ?_, List.pairwise_cons.2 ⟨fun y hy k hk hky => ?_, a4⟩⟩
  · rcases List.mem_cons.1 hx with rfl | hx
    · have i1 := hw.item (mp h) (by simp)
      have i2 := hw.item (mp h') (by simp)
      exact ⟨Gh.join_in i1.1 i2.1, mp_stable _ _, fun k hk => (f k hk).elim (i1.2.2 k) (i2.2.2 k)⟩
    · exact hw.item x (by simp [hx])
  · rcases f k hk with h1 | h1
    · exact a1 y (by simp [hy]) k h1 hky
    · exact a3 y hy k h1 hky
theorem Hp.mpOf {w : World} {b : Nat} {o : Obj} (hw : Hp w0 F (pt b o :: m) w) : Hp w0 F (mp (Gh.one b o) :: m) w :=
  hw.imp (fun k hk => by simp only [mp, Gh.one] at hk; split at hk <;> simp_all [pt]) (fun h x o' hx => by simp only [Gh.one] at hx; split at hx <;> simp_all [pt]) (mp_stable _ _)
theorem Hp.mpNone {w : World} (hw : Hp w0 F m w) : Hp w0 F (mp Gh.nil :: m) w :=
  Hp.call0 (L := [mp Gh.nil]) hw ⟨.refl _ _, fun it hm => by
    obtain rfl : it = mp Gh.nil := by simpa using hm
    exact ⟨(fun _ _ h => by cases h), mp_stable _ _, fun k hk => by simp [mp, Gh.nil] at hk⟩, .cons (fun _ h => by cases h) .nil⟩
/-- A cell of a block of a heap that lies in memory. -/
theorem x_imp {e : Exit} {m' : List Item} (hI : ∀ w, Hp w0 F m w → Hp w0 F m' w) (h : HX Q e N l (Hp w0 F m')) : HX Q e N l (Hp w0 F m) := by
  unfold HX at *; exact fun a w s hw => h a w s (hI w hw)
theorem t_imp {c : Code} {m' : List Item} (hI : ∀ w, Hp w0 F m w → Hp w0 F m' w) (h : HT P c Q N l (Hp w0 F m')) : HT P c Q N l (Hp w0 F m) := by
  unfold HT at *; exact fun a w s hw => h a w s (hI w hw)
theorem l_imp {m' : List Item} (hI : ∀ w, Hp w0 F m w → Hp w0 F m' w) (h : HL P ops Q N rest l (Hp w0 F m')) : HL P ops Q N rest l (Hp w0 F m) := by
  unfold HL at *; exact fun a w s hw => h a w s (hI w hw)
/-! ### items to the front -/
theorem bring5 {α : Type} (a b c d e f : α) (l : List α) : (a :: b :: c :: d :: e :: f :: l).Perm (f :: a :: b :: c :: d :: e :: l) := (List.Perm.cons a (bring4 _ _ _ _ _ _)).trans (.swap _ _ _)
theorem bring6 {α : Type} (a b c d e f g : α) (l : List α) : (a :: b :: c :: d :: e :: f :: g :: l).Perm (g :: a :: b :: c :: d :: e :: f :: l) := (List.Perm.cons a (bring5 _ _ _ _ _ _ _)).trans (.swap _ _ _)
theorem bring7 {α : Type} (a b c d e f g h : α) (l : List α) : (a :: b :: c :: d :: e :: f :: g :: h :: l).Perm (h :: a :: b :: c :: d :: e :: f :: g :: l) := (List.Perm.cons a (bring6 _ _ _ _ _ _ _ _)).trans (.swap _ _ _)
theorem bring8 {α : Type} (a b c d e f g h i : α) (l : List α) : (a :: b :: c :: d :: e :: f :: g :: h :: i :: l).Perm (i :: a :: b :: c :: d :: e :: f :: g :: h :: l) := (List.Perm.cons a (bring7 _ _ _ _ _ _ _ _ _)).trans (.swap _ _ _)
/-! ### pointers -/
theorem v_nc {x : Operand} {v : Addr} (hx : evO l x = some (.pointer (some v))) : OV P (.nilCheck x) ty l H (.pointer (some v)) := ov fun _ _ _ w _ => by simp only [execOp, ev_of hx]; rfl
/-! ### copies into a new row from its i-th element on; stores whose value is told -/
theorem put_nil {cs : List Value} {off : Nat} : put cs off [] = cs := by simp [put]
theorem o_copyS {dT sT e : TypeId} {x y : Operand} {b i c sLen sCap sz : Nat} {a : Option Addr} {cur cs : List Value} {t : TypeId} (hok : okOp N l (.call ⟨.builtin .copy, #[x, y], #[dT, sT]⟩) d = true)
    (hx : evO l x = some (.slice (slAt (some ⟨b, 0, none⟩) (decide (c = i)) (i * sz)) (c - i) (c - i))) (hy : evO l y = some (.slice a sLen sCap)) (hT : sliE P dT = some e) (he : cellsT P e = some sz) (hi : i ≤ c) (hcl : cur.length = c * sz) (hn : cs.length = min sLen (c - i) * sz)
    (hsrc : ∀ w, Hp w0 F (pt b (.cells cur.toArray t (0, 0)) :: m) w → Rd w a cs) (h0 : a = none → sLen = 0) (h1 : oneAll cs = true) :
    HO P ⟨some d, .call ⟨.builtin .copy, #[x, y], #[dT, sT]⟩, ty, pos, after, g⟩ Q N l (Hp w0 F (pt b (.cells cur.toArray t (0, 0)) :: m)) (α := Unit) (fun _ => (d, .int .i64 (min sLen (c - i) : Nat)) :: l) (fun _ => Hp w0 F (pt b (.cells (put cur (i * sz) cs).toArray t (0, 0)) :: m)) := by
  by_cases hc : c = i
  · subst hc
    rw [Nat.sub_self, Nat.min_zero, Nat.zero_mul] at hn
    obtain rfl : cs = [] := List.eq_nil_of_length_eq_zero hn
    simp only [decide_true, slAt, if_true] at hx
    have h2 := o_copyr (Q := Q) (pos := pos) (after := after) (g := g) (ty := ty) (F := F) (m := m) (w0 := w0) (cs := []) (sT := sT) hok hx hy hT he (by simp) hsrc h0 (by simp) h1
    rw [put_nil] at h2 ⊢
    exact h2
  · rw [slAt_add hc, Nat.zero_add] at hx
    refine o_copyr hok hx hy hT he hn hsrc h0 ?_ h1
    rw [hn, hcl, ← Nat.add_mul]
    refine Nat.mul_le_mul_right _ ?_
    have := Nat.min_le_right sLen (c - i)
    omega
theorem o_storerE {T : TypeId} {x y : Operand} {b off : Nat} {cs : List Value} {vs : Array Value} {V : List Value} {E : TypeId} (hok : (noSel (.store T x y) && known l (.store T x y)) = true)
    (hx : evO l x = some (.pointer (some ⟨b, off, none⟩))) (hy : evO l y = some (.agg vs)) (hv : vs.toList = V) (hT : (P.info? T).map (·.size) = some V.length) (h1' : oneAll V = true) (hs : off + V.length ≤ cs.length) :
    HO P ⟨none, .store T x y, ty, pos, after, g⟩ Q N l (Hp w0 F (pt b (.cells cs.toArray E (0, 0)) :: m)) (α := Unit) (fun _ => l) (fun _ => Hp w0 F (pt b (.cells (put cs off V).toArray E (0, 0)) :: m)) := by
  subst hv
  rw [Array.length_toList] at hT hs
  exact o_storer hok hx hy hT h1' hs
/-! ### two operations that turn memory, in either order -/
section
variable {S : World → Prop} {t : Nat}
theorem d_two (i j : Nat) {oi oj : Oper} {n : Nat} {listed : Array Bool} {α β : Type} {li : α → Slots} {Hi : α → World → Prop} {lj : β → Slots} {Hj : β → World → Prop} (hr0 : Region.ready .any ops listed = [i, j] ∧ i < t ∧ j < t) (hi0 : nth ops.toList i = some oi) (hj0 : nth ops.toList j = some oj) (gi : oi.guard = none) (gj : oj.guard = none)
    (hi : HO P oi (calm Q) N l H li Hi) (hj : HO P oj (calm Q) N l H lj Hj) (hSi : ∀ x w, Hi x w → S w) (hSj : ∀ x w, Hj x w → S w)
    (ki : ∀ x, HD P ops Q S t N n (listed.setIfInBounds i true) (li x) (Hi x)) (kj : ∀ x, HD P ops Q S t N n (listed.setIfInBounds j true) (lj x) (Hj x)) : HD P ops Q S t N (n + 1) listed l H := by
  unfold HD HO at *
  intro inv a w s hw
  have hi1 := nth_ops hi0
  have hj1 := nth_ops hj0
  obtain ⟨hr, hlt, hlt'⟩ := hr0
  have hmi : i ∈ Region.ready .any ops listed := by rw [hr]; simp
  have hmj : j ∈ Region.ready .any ops listed := by rw [hr]; simp
  refine ⟨fun h => (by rw [hr] at h; cases h), fun k hk => ?_⟩
  rw [hr] at hk
  unfold wpOp
  rcases List.mem_cons.1 hk with rfl | hk
  · simp only [hi1]
    rw [if_pos (by simp [Region.wanted, gi])]
    exact .inl (And.right <| hi a w s hw _ fun x a' w' s' hw' => ⟨fun _ => hSi x w' hw', ki x (inv.set hmi hlt) a' w' s' hw'⟩)
  · obtain rfl : k = j := by simpa using hk
    simp only [hj1]
    rw [if_pos (by simp [Region.wanted, gj])]
    exact .inl (And.right <| hj a w s hw _ fun x a' w' s' hw' => ⟨fun _ => hSj x w' hw', kj x (inv.set hmj hlt') a' w' s' hw'⟩)
theorem d_perm {n : Nat} {listed : Array Bool} {m' : List Item} (hp : m.Perm m') (h : HD P ops Q S t N n listed l (Hp w0 F m')) : HD P ops Q S t N n listed l (Hp w0 F m) := by
  unfold HD at *; exact fun inv a w s hw => h inv a w s (hw.perm hp)
end
theorem v_loadn {T : TypeId} {x : Operand} {b i : Nat} {v : Value} {cs : Array Value} {E : TypeId} {fz : Nat × Nat} (hx : evO l x = some (.pointer (some ⟨b, i, none⟩))) (hT : oneOf P T = true)
    (hm : pt b (.cells cs E fz) ∈ m) (hv : nth cs.toList i = some v) : OV P (.load T x) ty l (Hp w0 F m) v := v_loadp hx hT hm (by rw [nth_eq] at hv; simpa using hv)
end Go.Eng

namespace Go.Eng
open Go.RowKit
open Go.Lib (strCells strCells_length run_append_room_string run_append_grow_string run_firstCells_string)
variable {P : Program} {Q : Exit → Act → World → Prop} {N : Fm} {l : Slots} {H : World → Prop} {ops : Array Oper} {rest : List Oper} {w0 : World} {F : Nat → Prop} {m : List Item} {ty : TypeId} {pos : String} {after : Array Edge} {g : Option (Nat × Bool)} {d : Nat}
def ptrE (P : Program) (T : TypeId) : Option TypeId := match P.underlying T with | some (.pointer e) => some e | _ => none
theorem ptrE_spec {T e : TypeId} (h : ptrE P T = some e) : P.underlying T = some (.pointer e) ∧ P.underlying T = some (.pointer (P.pointee T)) := by
  unfold ptrE at h
  split at h
  · rename_i hu; rw [hu]; cases h; exact ⟨rfl, by simp [Program.pointee, hu]⟩
  · cases h
theorem v_eqpn {T U e : TypeId} {x y : Operand} {p : Option Addr} (hx : evO l x = some (.pointer p)) (hy : evO l y = some (.pointer none)) (hT : ptrE P T = some e) : OV P (.binOp .eql T x y U) ty l H (.bool p.isNone) := v_bin hx hy fun w => by
  show ((binOp .eql T (.pointer p) (.pointer none)).run P w) = _
  exact run_eql_pointer_nil w T p (ptrE_spec hT).2
theorem v_nepn {T U e : TypeId} {x y : Operand} {p : Option Addr} (hx : evO l x = some (.pointer p)) (hy : evO l y = some (.pointer none)) (hT : ptrE P T = some e) : OV P (.binOp .neq T x y U) ty l H (.bool (!p.isNone)) := v_bin hx hy fun w => by
  show ((binOp .neq T (.pointer p) (.pointer none)).run P w) = _
  exact run_neq_pointer_nil w T p (ptrE_spec hT).2
theorem v_neps {T U e : TypeId} {x y : Operand} {a : Addr} (hx : evO l x = some (.pointer (some a))) (hy : evO l y = some (.pointer (some a))) (hT : ptrE P T = some e) (hi : (P.info? e).isSome = true) : OV P (.binOp .neq T x y U) ty l H (.bool false) := v_bin hx hy fun w => by
  show ((binOp .neq T (.pointer (some a)) (.pointer (some a))).run P w) = _
  obtain ⟨j, hj⟩ := Option.isSome_iff_exists.1 hi
  exact Lib.run_neq_ptr_same w a (ptrE_spec hT).1 hj
/-- A pointer of any kind, there and back, over a block that is there. -/
def isUns (P : Program) (T : TypeId) : Bool := match P.underlying T with | some .unsafePointer => true | _ => false
theorem isUns_spec {T : TypeId} (h : isUns P T = true) : P.underlying T = some .unsafePointer := by
  unfold isUns at h
  split at h
  · assumption
  · cases h
theorem v_toUns {T U e E : TypeId} {x : Operand} {b i : Nat} {cs : Array Value} {fz : Nat × Nat} (hx : evO l x = some (.pointer (some ⟨b, i, none⟩))) (hT : ptrE P T = some e) (hU : isUns P U = true) (hs : Nat.ble 1 ((cellsT P e).getD 0) = true) (hm : pt b (.cells cs E fz) ∈ m) (hi : i < cs.size) : OV P (.convert T U x) ty l (Hp w0 F m) (.pointer (some ⟨b, i, none⟩)) := ov fun _ _ _ w hw => by
  have hb := hw.get hm
  cases hq : cellsT P e with
  | none => rw [hq] at hs; cases hs
  | some n =>
    obtain ⟨j, h1, h2⟩ := cellsT_spec hq
    rw [hq] at hs
    have hsh : w.shape? b = some (E, cs.size) := by simp [World.shape?, hb]
    simp only [execOp, ev_of hx, Sem.run_bind]
    rw [Lib.run_to_unsafe w ⟨b, i, none⟩ (ptrE_spec hT).1 (isUns_spec hU) h1 (by have := Nat.le_of_ble_eq_true hs; simp at this; omega) hsh hi]
    rfl
theorem v_ofUns {T U e E : TypeId} {x : Operand} {b i : Nat} {cs : Array Value} {fz : Nat × Nat} (hx : evO l x = some (.pointer (some ⟨b, i, none⟩))) (hT : ptrE P T = some e) (hU : isUns P U = true) (hs : (P.info? e).isSome = true) (hm : pt b (.cells cs E fz) ∈ m) (hl : liesAt P P.depth E (cs.size / P.cellsOf E) i e 1 = true) : OV P (.convert U T x) ty l (Hp w0 F m) (.pointer (some ⟨b, i, none⟩)) := ov fun _ _ _ w hw => by
  have hb := hw.get hm
  obtain ⟨j, hj⟩ := Option.isSome_iff_exists.1 hs
  have hsh : w.shape? b = some (E, cs.size) := by simp [World.shape?, hb]
  simp only [execOp, ev_of hx, Sem.run_bind]
  rw [Lib.run_from_unsafe w ⟨b, i, none⟩ (isUns_spec hU) (ptrE_spec hT).1 hj hsh hl]
  rfl
/-- append(b, s...), s a string. -/
def bytesV (s : List UInt8) : List Value := s.map fun b => Value.int .u8 b.toNat
theorem strCells_eq (s : ByteArray) : strCells s = bytesV s.data.toList := by
  simp [strCells, bytesV]
theorem app_str {t u ty' e : TypeId} {i : TypeInfo} (ht : P.underlying t = some (.slice e)) (hu : P.underlying u = some .string) (hi : P.info? e = some i) (hz : i.zero = some (.int .u8 0)) (hs1 : i.size = 1) (hby : i.bytes = 1)
    {w : World} {o : Option (Nat × Nat)} {n : Nat} {xs : List Value} (hown : (own e 1 o n xs).prop w) (s : ByteArray) (h63 : n + s.size ≤ 140737488355328) :
    ∃ o' w', (Builtin.append_ #[t, u] ty' #[slV o n, .string s]).run P w = .ok (slV o' (n + s.size)) w' ∧ Its (fun k => ∃ c, o = some (k, c)) w [own e 1 o' (n + s.size) (xs ++ strCells s)] w' := by
  have hrow := own_row hown
  have hxl : xs.length = n := by simpa using hrow.1
  have hlen : (xs ++ strCells s).length = (n + s.size) * 1 := by rw [List.length_append, hxl, strCells_length, Nat.mul_one]
  have hmx : n + s.size ≤ maxLen := by unfold maxLen; omega
  have grown : ∀ (old : Nat), old < n + s.size →
      Its (fun k => ∃ c, o = some (k, c)) w [own e 1 (some (w.heap.size, grownCap w (n + s.size) old e)) (n + s.size) (xs ++ strCells s)] (w.drew.alloc (.cells (xs.toArray ++ (strCells s).toArray ++ Builtin.zeroCells (Value.int .u8 0).cells (grownCap w (n + s.size) old e - (n + s.size))) e)) := by
    intro old ho
    have hge := grownCap_ge w (n + s.size) old e
    refine its_own ⟨hlen, hge, grownCap_le_maxLen w (n + s.size) old e hmx, _, heap_alloc_new w.drew _, ?_, ?_⟩ (fr_grow rfl rfl rfl (by simp) fun j hj _ => Below.heap_alloc w.drew _ j hj) (fun b c' h => .inl (by cases h; exact Nat.le_refl _))
    · have hz1 : (Value.int IntKind.u8 0).cells.size = 1 := rfl
      simp only [Array.size_append, List.size_toArray, size_zeroCells, hz1, hxl, strCells_length]
      omega
    · simp only [Array.toList_append, List.append_assoc]
      rw [← List.append_assoc, ← hlen]
      exact List.take_left
  match o, hown with
  | none, hown =>
    obtain rfl : n = 0 := hown.2
    obtain rfl : xs = [] := List.eq_nil_of_length_eq_zero hxl
    by_cases hm : s.size = 0
    · have hn : strCells s = [] := List.eq_nil_of_length_eq_zero (by rw [strCells_length]; exact hm)
      refine ⟨none, w, ?_, ?_⟩
      · have hf := run_firstCells_string (P := P) w 1 s
        rw [hm] at hf
        simp [Builtin.append_, run_underlying ht, run_underlying hu, sizeOf, typeInfo, hi, hs1, Builtin.lenOf, hm, hf, slV]
      · rw [hn, hm]
        exact its_own (o := none) hown (.refl _ _) (fun _ _ h => by cases h)
    · have hr := run_append_nil_string (P := P) w t u ty' e i (.int .u8 0) ht hu hi hz s (by omega) (by omega) (by rw [hby]; omega)
      have hgr := grown 0 (by omega)
      simp only [Nat.zero_add, List.nil_append, Array.empty_append] at hgr ⊢
      have e1 : (s.data.map fun b => Value.int .u8 b.toNat) = (strCells s).toArray := by
        apply Array.ext'
        simp [strCells]
      rw [e1] at hr
      exact ⟨some (w.heap.size, grownCap w s.size 0 e), _, hr, hgr⟩
  | some (b, cap), hown =>
    obtain ⟨h2, h3, cur, h4, h5, h6⟩ := hown.2
    rw [Nat.mul_one] at h5 h6
    by_cases hroom : n + s.size ≤ cap
    · have hr := run_append_room_string (P := P) w t u ty' e i ht hu hi hs1 b n cap cur h4 s hroom (by omega)
      refine ⟨some (b, cap), _, hr, its_own ⟨hlen, hroom, h3, _, setRow_heap w b cur _ e _ h4, ?_, ?_⟩ (fr_grow rfl rfl rfl (by simp) fun j _ hj => setRow_other w b j _ (fun e => hj ⟨cap, by rw [e]⟩)) (fun b' c' h => .inr ⟨c', h⟩)⟩
      · simp only [List.size_toArray, List.length_append, List.length_take, List.length_drop, Array.length_toList, strCells_length]
        omega
      · rw [h6, ← hlen]
        exact List.take_left
    · have hr := run_append_grow_string (P := P) w t u ty' e i (.int .u8 0) ht hu hi hz ⟨b, 0, none⟩ n cap xs (by rw [hs1]; simpa using hxl) (hrow.cells (g := b) rfl) s (by omega) (by omega) (by rw [hby]; exact growslice_fits (by omega) (by omega))
      exact ⟨some (w.heap.size, grownCap w (n + s.size) cap e), _, hr, grown cap (by omega)⟩
def byteE (P : Program) (e : TypeId) : Bool := match P.info? e with | some ⟨_, _, sz, bt, _, _, _, some (.int .u8 0), _, _⟩ => Nat.beq sz 1 && Nat.beq bt 1 | _ => false
theorem byteE_spec {e : TypeId} (h : byteE P e = true) : ∃ i, P.info? e = some i ∧ i.zero = some (.int .u8 0) ∧ i.size = 1 ∧ i.bytes = 1 := by
  unfold byteE at h
  split at h
  · rename_i hi
    simp only [Bool.and_eq_true] at h
    exact ⟨_, hi, rfl, Nat.eq_of_beq_eq_true h.1, Nat.eq_of_beq_eq_true h.2⟩
  · cases h
theorem o_appstr {T U T' e : TypeId} {x y : Operand} {o : Option (Nat × Nat)} {n : Nat} {xs : List Value} {s : ByteArray} (hok : okOp N l (.call ⟨.builtin .append, #[x, y], #[T, U]⟩) d = true) (hx : evO l x = some (slV o n)) (hy : evO l y = some (.string s))
    (hT : sliE P T = some e) (hU : P.underlying U = some .string) (he : byteE P e = true) (hn : n + s.size ≤ 140737488355328) :
    HO P ⟨some d, .call ⟨.builtin .append, #[x, y], #[T, U]⟩, T', pos, after, g⟩ Q N l (Hp w0 F (own e 1 o n xs :: m)) (α := Option (Nat × Nat)) (fun o' => (d, slV o' (n + s.size)) :: l) (fun o' => Hp w0 F (own e 1 o' (n + s.size) (xs ++ bytesV s.data.toList) :: m)) :=
  o_mem (val := fun o' => slV o' (n + s.size)) hok (fun w hw => by
    obtain ⟨i, h1, h2, h3, h4⟩ := byteE_spec he
    obtain ⟨o', w', hr, hits⟩ := app_str (P := P) (ty' := T') (sliE_spec hT) hU h1 h2 h3 h4 (hw.item (own e 1 o n xs) (by simp)).1 s hn
    rw [strCells_eq] at hits
    refine ⟨o', w', ?_, Hp.call (m := [own e 1 o n xs]) hw hits (fun k' _ hk => ⟨own e 1 o n xs, by simp, hk⟩)⟩
    simp only [execOp, resolve, invoke, builtin]
    simp [ev_of hx, ev_of hy, hr])
/-- bytealg.MakeNoZero: a row of whatever bytes. -/
theorem o_mnz {f : FuncId} {fn : Func} {t e : TypeId} {x : Operand} {tys : Array TypeId} {k : Int} {n : Nat} [h : NatOf k n] (hok : okOp N l (.call ⟨.value (.func f), #[x], tys⟩) d = true) (hf : P.funcs[f]? = some fn) (hname : (fn.name == "runtime.NumGoroutine") = false) (hb : fn.body.isNone = true) (hne : Extern.findNext fn = none)
    (he : Extern.find fn = some (Extern.BytealgMakeNoZero.makeNoZero fn.params fn.resultTypes)) (hr : fn.resultTypes = #[t]) (hT : sliE P t = some e) (hx : evO l x = some (.int .i64 k)) (hn : n ≤ 281474976710656) :
    HO P ⟨some d, .call ⟨.value (.func f), #[x], tys⟩, ty, pos, after, g⟩ Q N l (Hp w0 F m) (α := { p : Nat × Array Value // n ≤ p.2.size ∧ p.2.size ≤ maxLen }) (fun p => (d, .slice (some ⟨p.1.1, 0, none⟩) n p.1.2.size) :: l) (fun p => Hp w0 F (pt p.1.1 (.cells p.1.2 e (0, 0)) :: m)) := by
  obtain rfl := h.eq
  exact o_mem (val := fun p : { p : Nat × Array Value // n ≤ p.2.size ∧ p.2.size ≤ maxLen } => .slice (some ⟨p.1.1, 0, none⟩) n p.1.2.size) hok (fun w hw => by
    obtain ⟨cs, h1, h2, h3⟩ := Lib.run_makeNoZero (P := P) w fn.params t e (sliE_spec hT) n hn
    refine ⟨⟨(w.heap.size, cs), h2, h3 (by unfold maxLen; omega)⟩, _, ?_, hw.drew.drew.alloc (.cells cs e)⟩
    have hcall : (callFunc f #[.int .i64 (n : Int)]).run P w = .ok (.value (.slice (some ⟨w.heap.size, 0, none⟩) n cs.size)) (w.drew.drew.alloc (.cells cs e)) := by
      rw [run_callFunc_extern hf hname hb hne he, hr, h1]; rfl
    simp only [execOp, resolve, Deferred.ofValue, ev]
    simp [ev_of hx, invoke, hcall])
theorem v_usd {T : Array TypeId} {x : Operand} {b c n : Nat} (hx : evO l x = some (.slice (some ⟨b, 0, none⟩) n c)) (hc : c ≠ 0) : OV P (.call ⟨.builtin .unsafeSliceData, #[x], T⟩) ty l H (.pointer (some ⟨b, 0, none⟩)) := ov fun _ _ _ w _ => by
  have h := Lib.run_unsafeSliceData_row (P := P) w T ty ⟨b, 0, none⟩ n c hc
  simp only [execOp, resolve, invoke, builtin]
  simp [ev_of hx, h]
theorem freeze_other {w : World} {b k n : Nat} (h : k ≠ b) : (w.freeze ⟨b, 0, none⟩ n).heap[k]? = w.heap[k]? := by
  unfold World.freeze
  split
  · rfl
  · simp [Array.getElem?_modify, Ne.symm h]
theorem freeze_size {w : World} {b n : Nat} : (w.freeze ⟨b, 0, none⟩ n).heap.size = w.heap.size := by
  unfold World.freeze
  split <;> simp
theorem freeze_rest {w : World} {b n : Nat} : (w.freeze ⟨b, 0, none⟩ n).os = w.os ∧ (w.freeze ⟨b, 0, none⟩ n).tape = w.tape ∧ (w.freeze ⟨b, 0, none⟩ n).output = w.output := by
  unfold World.freeze
  split <;> exact ⟨rfl, rfl, rfl⟩
theorem o_ustr {pt' it' T' e : TypeId} {x y : Operand} {b c n : Nat} {k : Int} [h : NatOf k n] {s : ByteArray} (hok : okOp N l (.call ⟨.builtin .unsafeString, #[x, y], #[pt', it']⟩) d = true) (hx : evO l x = some (.pointer (some ⟨b, 0, none⟩))) (hy : evO l y = some (.int .i64 k)) (hT : ptrE P pt' = some e) (hc : P.cellsOf e = 1) (h0 : 0 < n) (hn : n = s.size) :
    HO P ⟨some d, .call ⟨.builtin .unsafeString, #[x, y], #[pt', it']⟩, T', pos, after, g⟩ Q N l (Hp w0 F (own e 1 (some (b, c)) n (bytesV s.data.toList) :: m)) (α := Unit) (fun _ => (d, .string s) :: l) (fun _ => Hp w0 F m) := by
  obtain rfl := h.eq
  exact o_mem (val := fun _ => .string s) hok (fun w hw => by
    have hp := (hw.item (own e 1 (some (b, c)) n (bytesV s.data.toList)) (by simp)).1
    obtain ⟨h1, h2, cur, h3, h4, h5⟩ := hp.2
    have hsh : w.shape? b = some (e, cur.size) := by simp [World.shape?, h3]
    have hsl : s.data.toList.length = n := by rw [ba_size]; exact hn.symm
    have hr := Lib.run_unsafeString_row (P := P) w pt' it' T' e (ptrE_spec hT).1 hc b cur.size hsh s.data.toList (by intro h; rw [h] at hsl; simp at hsl; omega) (by rw [h4]; omega) (by unfold maxLen at h2; omega) (fun j x hx => by
      rw [add_at, Nat.zero_add]
      exact own_rd hp j _ (by simp [bytesV, hx]))
    refine ⟨(), w.freeze ⟨b, 0, none⟩ n, ?_, ?_⟩
    · simp only [execOp, resolve, invoke, builtin]
      rw [hsl] at hr
      simp [ev_of hx, ev_of hy, hr]
    · obtain ⟨f1, f2, f3⟩ := freeze_rest (w := w) (b := b) (n := n)
      have := Hp.call (L := []) (m := [own e 1 (some (b, c)) n (bytesV s.data.toList)]) (m2 := m) (Fc := fun k => k = b) hw ⟨⟨f1, f2, f3, Nat.le_of_eq freeze_size.symm, fun k _ hk => freeze_other hk⟩, (fun it hm => by cases hm), .nil⟩ (fun k _ hk => ⟨own e 1 (some (b, c)) n (bytesV s.data.toList), by simp, ⟨c, by rw [hk]⟩⟩)
      simpa using this)
/-! ### ends of functions without results -/
theorem x_ct0 {n : Nat} {fn : Func} {α : Type} {val : α → Value} {φ : α → Prop} {its : α → List Item} (x : α) (hf : fn.results = #[]) (e : .tuple #[] = val x) (hφ : φ x) (hs : (its x).Sublist m) (hst : ∀ it ∈ its x, it.Stable none') : HX (bodyPost P fn (ctPost w0 F val φ its)) .ret ⟨n, [], none⟩ l (Hp w0 F m) :=
  x_ret0 hf fun _ hw => ⟨x, by rw [e], hφ, hw.its hs hst⟩
theorem x_ct0N {n : Nat} {fn : Func} {α : Type} {val : α → Value} {φ : α → Prop} {its : α → List Item} (x : α) (hf : fn.results = #[]) (e : .tuple #[] = val x) (hφ : φ x) (hs : (its x).Sublist m) (hst : ∀ it ∈ its x, it.Stable none') : HX (bodyPost P fn (ctPost w0 F val φ its)) .normal ⟨n, [], none⟩ l (Hp w0 F m) :=
  x_end0 hf fun _ hw => ⟨x, by rw [e], hφ, hw.its hs hst⟩
theorem v_caps {x : Operand} {T : TypeId} {a : Option Addr} {n c : Nat} (hx : evO l x = some (.slice a n c)) (hT : (sliE P T).isSome = true) : OV P (.call ⟨.builtin .cap, #[x], #[T]⟩) ty l H (.int .i64 c) := ov fun _ _ _ w _ => by
  obtain ⟨e, he⟩ := Option.isSome_iff_exists.1 hT
  simp [execOp, resolve, invoke, builtin, ev_of hx, Builtin.cap_, run_underlying (sliE_spec he) w, goInt]
/-- A region that draws, in which the first item is given up. -/
theorem t_drawt {id : Nat} {r : List Oper} {it : Item} (hm : drawOk P r = true) (h : HD P r.toArray Q (Hp w0 F m) r.length N r.length (Array.replicate r.length false) l (Hp w0 F (it :: m))) : HT P (.region id r.toArray true) Q N l (Hp w0 F (it :: m)) := by
  unfold HT HD at *
  intro a w s hw
  simp only [drawOk, Bool.and_eq_true, List.all_eq_true] at hm
  refine wpIn_mono (wpIn_region_any (Q := calm Q) hm.1 (any_in (by simpa using hm.2) calm_out N.r _ _ _ _ (wpAny_of_K (S := Hp w0 F m) (t := r.length) _ _ _ _ ?_))) (fun _ _ _ h => calm_le h)
  have := h (by simpa using headInv_start r.toArray r.length) a w.drew s hw.drew
  simpa using this
end Go.Eng

namespace Go.Eng
open Go.RowKit
variable {P : Program} {Q : Exit → Act → World → Prop} {N : Fm} {l : Slots} {H : World → Prop} {ops : Array Oper} {rest : List Oper} {w0 : World} {F : Nat → Prop} {m m' : List Item} {ty : TypeId} {pos : String} {after : Array Edge} {g : Option (Nat × Bool)} {d : Nat}
def pickI (m : List Item) : List Nat → Option (List Item)
  | [] => some []
  | i :: r => match nth m i, pickI m r with
    | some x, some L => some (x :: L)
    | _, _ => none
def distB : List Nat → Bool
  | [] => true
  | i :: r => !isIn r i && distB r
theorem isIn_iff : ∀ {L : List Nat} {i : Nat}, isIn L i = true ↔ i ∈ L
  | [], _ => by simp [isIn]
  | x :: r, i => by
    simp only [isIn, Bool.or_eq_true, List.mem_cons, isIn_iff (L := r)]
    constructor
    · rintro (h | h)
      · exact .inl (Nat.eq_of_beq_eq_true h).symm
      · exact .inr h
    · rintro (rfl | h)
      · exact .inl (Nat.beq_refl _)
      · exact .inr h
theorem pickI_mem : ∀ {is : List Nat} {m' : List Item}, pickI m is = some m' → ∀ x ∈ m', ∃ i ∈ is, m[i]? = some x
  | [], m', h, x, hx => by simp only [pickI, Option.some.injEq] at h; subst h; cases hx
  | i :: r, m', h, x, hx => by
    simp only [pickI] at h
    split at h
    · rename_i y L h1 h2
      simp only [Option.some.injEq] at h
      subst h
      rcases List.mem_cons.1 hx with rfl | hx
      · exact ⟨i, by simp, by rw [← nth_eq]; exact h1⟩
      · obtain ⟨j, hj, h3⟩ := pickI_mem h2 x hx
        exact ⟨j, by simp [hj], h3⟩
    · cases h
theorem pickI_apart (hm : m.Pairwise Item.Apart) : ∀ {is : List Nat} {m' : List Item}, distB is = true → pickI m is = some m' → m'.Pairwise Item.Apart
  | [], m', _, h => by simp only [pickI, Option.some.injEq] at h; subst h; exact .nil
  | i :: r, m', hd, h => by
    simp only [distB, Bool.and_eq_true, Bool.not_eq_true'] at hd
    simp only [pickI] at h
    split at h
    · rename_i y L h1 h2
      simp only [Option.some.injEq] at h
      subst h
      refine List.pairwise_cons.2 ⟨fun z hz => ?_, pickI_apart hm hd.2 h2⟩
      obtain ⟨j, hj, h3⟩ := pickI_mem h2 z hz
      have hij : i ≠ j := fun e => by
        subst e
        have := isIn_iff.2 hj
        rw [hd.1] at this; cases this
      rw [nth_eq] at h1
      obtain ⟨a1, a2⟩ := List.getElem?_eq_some_iff.1 h1
      obtain ⟨b1, b2⟩ := List.getElem?_eq_some_iff.1 h3
      rcases Nat.lt_or_gt_of_ne hij with hlt | hlt
      · have := List.pairwise_iff_getElem.1 hm i j a1 b1 hlt
        rwa [a2, b2] at this
      · have := List.pairwise_iff_getElem.1 hm j i b1 a1 hlt
        rw [a2, b2] at this
        exact fun k h h' => this k h' h
    · cases h
theorem Hp.pick {w : World} (hw : Hp w0 F m w) (is : List Nat) (hd : distB is = true) (h : pickI m is = some m') : Hp w0 F m' w :=
  ⟨hw.fr, fun it hm => by obtain ⟨i, -, hi⟩ := pickI_mem h it hm; exact hw.item it (List.mem_of_getElem? hi), pickI_apart hw.apart hd h⟩
theorem l_pick (is : List Nat) (hd : distB is = true) (h : pickI m is = some m') (k : HL P ops Q N rest l (Hp w0 F m')) : HL P ops Q N rest l (Hp w0 F m) := l_imp (fun _ hw => hw.pick is hd h) k
theorem t_pick {c : Code} (is : List Nat) (hd : distB is = true) (h : pickI m is = some m') (k : HT P c Q N l (Hp w0 F m')) : HT P c Q N l (Hp w0 F m) := t_imp (fun _ hw => hw.pick is hd h) k
theorem x_pick {e : Exit} (is : List Nat) (hd : distB is = true) (h : pickI m is = some m') (k : HX Q e N l (Hp w0 F m')) : HX Q e N l (Hp w0 F m) := x_imp (fun _ hw => hw.pick is hd h) k
theorem d_pick {S : World → Prop} {t n : Nat} {listed : Array Bool} (is : List Nat) (hd : distB is = true) (h : pickI m is = some m') (k : HD P ops Q S t N n listed l (Hp w0 F m')) : HD P ops Q S t N n listed l (Hp w0 F m) := by
  unfold HD at *; exact fun inv a w s hw => k inv a w s (hw.pick is hd h)
theorem ho_pick {o : Oper} {α : Type} {l' : α → Slots} {H' : α → World → Prop} (is : List Nat) (hd : distB is = true) (h : pickI m is = some m') (k : HO P o Q N l (Hp w0 F m') l' H') : HO P o Q N l (Hp w0 F m) l' H' := by
  unfold HO at *; exact fun a w s hw => k a w s (hw.pick is hd h)
/-- What lies in old memory and is not given over lies in no item. -/
theorem Hp.out {w : World} (hw : Hp w0 F m w) {b : Nat} (hb : b < w0.heap.size) (hF : ¬ F b) : ¬ foots m b := fun ⟨it, hm, hk⟩ => hF ((hw.item it hm).2.2 b hk |>.2 hb)
theorem Gh.In.lt {h : Gh} {w : World} (hi : h.In w) {b : Nat} (hb : (h b).isSome = true) : b < w.heap.size := by
  obtain ⟨o, ho⟩ := Option.isSome_iff_exists.1 hb
  exact (Array.getElem?_eq_some_iff.1 (hi b o ho)).1
theorem Gh.In.out {h : Gh} {w : World} (hi : h.In w0) (hF : ∀ b, (h b).isSome = true → ¬ F b) (hw : Hp w0 F m w) : ∀ b, (h b).isSome = true → ¬ foots m b := fun b hb => hw.out (hi.lt hb) (hF b hb)
theorem foots_left {L M : List Item} {b : Nat} (h : ¬ foots (L ++ M) b) : ¬ foots L b := fun ⟨it, hm, hk⟩ => h ⟨it, by simp [hm], hk⟩
/-- A function value's call that takes the items 'pre' over. -/
theorem o_cuF {f : FuncId} {x : Operand} {fs cs : List Value} {xs : List Operand} {tys : Array TypeId} {vs us : List Value} {pre : List Item} {α : Type} {val : α → Value} {φ : α → Prop} {its : α → List Item}
    (hok : okOp N l (.call ⟨.value x, xs.toArray, tys⟩) d = true) (hb : hasBody P f = true) (hf : evO l x = some (.func (.func f) fs.toArray cs.toArray)) (hx : evs l xs = some vs) (hu : fs ++ (vs ++ cs) = us) (hst : ∀ it ∈ pre, it.Stable none')
    (hc : ∀ w, Hp w0 F (pre ++ m) w → (∀ it ∈ pre, Here it w) → pre.Pairwise Item.Apart → Ct P f us.toArray w (foots pre) val φ its) :
    HO P ⟨some d, .call ⟨.value x, xs.toArray, tys⟩, ty, pos, after, g⟩ Q N l (Hp w0 F (pre ++ m)) (α := { x : α // φ x }) (fun x => (d, val x.1) :: l) (fun x => Hp w0 F (its x.1 ++ m)) :=
  o_call (val := fun x : { x : α // φ x } => val x.1) hok (entersF hf hb hx hu) (fun w hw => (Ct.calls (hc w hw (fun it hm => have h := hw.item it (List.mem_append_left _ hm); ⟨h.1, hst it hm, fun k hk => (h.2.2 k hk).1⟩) (List.pairwise_append.1 hw.apart).1)).mono fun _ _ ⟨x, he, hx, hi⟩ => ⟨⟨x, hx⟩, he, hw.call hi fun _ _ ⟨it, hm, hk⟩ => ⟨it, hm, hk⟩⟩)
/-- A function value's call that hands over items. -/
theorem o_ctF {f : FuncId} {x : Operand} {fs cs : List Value} {xs : List Operand} {tys : Array TypeId} {vs us : List Value} {α : Type} {val : α → Value} {φ : α → Prop} {its : α → List Item}
    (hok : okOp N l (.call ⟨.value x, xs.toArray, tys⟩) d = true) (hb : hasBody P f = true) (hf : evO l x = some (.func (.func f) fs.toArray cs.toArray)) (hx : evs l xs = some vs) (hu : fs ++ (vs ++ cs) = us)
    (hc : ∀ w, Hp w0 F m w → Ct P f us.toArray w none' val φ its) :
    HO P ⟨some d, .call ⟨.value x, xs.toArray, tys⟩, ty, pos, after, g⟩ Q N l (Hp w0 F m) (α := { x : α // φ x }) (fun x => (d, val x.1) :: l) (fun x => Hp w0 F (its x.1 ++ m)) :=
  o_call (val := fun x : { x : α // φ x } => val x.1) hok (entersF hf hb hx hu) (fun w hw => (Ct.calls (hc w hw)).mono fun _ _ ⟨x, he, hx, hi⟩ => ⟨⟨x, hx⟩, he, hw.call0 hi⟩)
/-- A region that draws: what the operations that only tell a value may lean on, the items in 'm''; number t is the last. -/
theorem t_drawm {id : Nat} {r : List Oper} (is : List Nat) (t : Nat) (hd : distB is = true) (hp : pickI m is = some m') (hm : drawOk P r = true) (h : HD P r.toArray Q (Hp w0 F m') t N r.length (Array.replicate r.length false) l (Hp w0 F m)) : HT P (.region id r.toArray true) Q N l (Hp w0 F m) := by
  unfold HT HD at *
  intro a w s hw
  simp only [drawOk, Bool.and_eq_true, List.all_eq_true] at hm
  refine wpIn_mono (wpIn_region_any (Q := calm Q) hm.1 (any_in (by simpa using hm.2) calm_out N.r _ _ _ _ (wpAny_of_K (S := Hp w0 F m') (t := t) _ _ _ _ ?_))) (fun _ _ _ h => calm_le h)
  have := h (by simpa using headInv_start r.toArray t) a w.drew s hw.drew
  simpa using this
end Go.Eng
