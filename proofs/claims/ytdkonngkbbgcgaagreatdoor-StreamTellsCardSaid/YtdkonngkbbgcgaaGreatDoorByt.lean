/- Slices of bytes: conversions, clones, what is read of them. -/
import Derived.Test.YtdkonngkbbgcgaaGreatDoorGb
import Derived.Test.YtdkonngkbbgcgaaGreatDoorGc
import Derived.Laws.IdiomStrings
import Derived.Laws.Cover3
namespace Go.Eng
open Go.RowKit
set_option maxRecDepth 100000
variable {P : Program} {Q : Exit → Act → World → Prop} {N : Fm} {l : Slots} {H : World → Prop} {ops : Array Oper} {rest : List Oper} {w0 : World} {F : Nat → Prop} {m m' : List Item} {ty : TypeId} {pos : String} {after : Array Edge} {g : Option (Nat × Bool)} {d : Nat}
/-! ### Reading -/
theorem Rd.take {w : World} {a : Option Addr} {xs : List Value} (h : Rd w a xs) (k : Nat) : Rd w a (xs.take k) := by
  rcases h with h | ⟨b, off, rfl, h⟩
  · exact .inl (by rw [h]; exact List.take_nil)
  · exact .inr ⟨b, off, rfl, rangeAt_take h⟩
theorem Rd.drop1 {w : World} {a : Option Addr} {xs : List Value} {c : Nat} (h : Rd w a xs) (i : Nat) (hc : xs.length ≤ c) : Rd w (slAt a (decide (c = i)) (i * 1)) (xs.drop i) := by
  by_cases hi : xs.length ≤ i
  · exact .inl (List.drop_of_length_le hi)
  · rcases h with h | ⟨b, off, rfl, h⟩
    · exact .inl (by rw [h]; simp)
    · rw [slAt_add (by omega), Nat.mul_one]
      exact .inr ⟨b, off + i, rfl, rangeAt_drop h⟩
theorem bytesV_length (s : List UInt8) : (bytesV s).length = s.length := by simp [bytesV]
theorem bytesV_take (s : List UInt8) (n : Nat) : bytesV (s.take n) = (bytesV s).take n := by simp [bytesV]
theorem bytesV_drop (s : List UInt8) (n : Nat) : bytesV (s.drop n) = (bytesV s).drop n := by simp [bytesV]
theorem bytesV_app (a b : List UInt8) : bytesV (a ++ b) = bytesV a ++ bytesV b := by simp [bytesV]
theorem bytesV_at {s : List UInt8} {i : Nat} (h : i < s.length) : (bytesV s)[i]? = some (.int .u8 (s[i].toNat : Int)) := by simp [bytesV, h]
theorem bytesV_one (s : List UInt8) : oneAll (bytesV s) = true := by
  induction s with
  | nil => rfl
  | cons c s ih =>
    show (Value.oneCell' _ && oneAll (bytesV s)) = true
    rw [ih]; rfl
theorem Rd.byte {w : World} {a : Option Addr} {s : List UInt8} (h : Rd w a (bytesV s)) {i : Nat} (hi : i < s.length) : ∃ b off, a = some ⟨b, off, none⟩ ∧ w.cell? ⟨b, off + i, none⟩ = some (.int .u8 (s[i].toNat : Int)) := by
  rcases h with h | ⟨b, off, rfl, h⟩
  · have := congrArg List.length h
    rw [bytesV_length] at this
    simp at this; subst this; simp at hi
  · exact ⟨b, off, rfl, h i _ (bytesV_at hi)⟩
/-- A quiet call as one that hands over nothing that counts. -/
theorem pu_ct {f : FuncId} {args : Array Value} {w : World} {v : Value} {e : TypeId} (h : Pu P f args w v) : Ct P f args w none' (fun _ : Unit => v) (fun _ => True) (fun _ => [own e 1 none 0 []]) := by
  unfold Ct
  refine h.calls.mono fun e' w' ⟨h1, h2⟩ => ⟨(), h1, trivial, h2, fun it hm => ?_, .cons (fun _ h => nomatch h) .nil⟩
  obtain rfl : it = own e 1 none 0 [] := by simpa using hm
  exact ⟨⟨by simp, rfl⟩, own_stable _ _ _ _ _ _, fun k ⟨c, hk⟩ => nomatch hk⟩
theorem rangeAt_fr {w w' : World} {F : Nat → Prop} {b off : Nat} {xs : List Value} (h : w.rangeAt b off xs) (hF : ¬ F b) (hf : Fr F w w') : w'.rangeAt b off xs := fun j v hv => by
  have h1 := h j v hv
  rw [← h1]
  exact World.cell?_of_block (w := w) (hf.block b (World.block_lt_of_cell? w _ h1) hF)
theorem Here.fr {it : Item} {w w' : World} (h : Here it w) (hf : Fr none' w w') : Here it w' :=
  ⟨h.2.1 w w' (fun k hk => hk.elim (fun f => f.elim) fun hk => hf.block k (h.2.2 k hk) (fun h => h)) h.1, h.2.1, fun k hk => Nat.lt_of_lt_of_le (h.2.2 k hk) hf.size⟩
/-! ### Two ways that come together -/
theorem t_join {n : Nat} {ds : List Deferred} {r : Option Nat} {x y : Code} {α : Type} (L : α → Slots) (φ : α → Prop) (M : α → List Item)
    (h : HT P x (Exit.then (fun a w => ∃ z, φ z ∧ St ⟨n, ds, r⟩ (L z) a ∧ Hp w0 F (M z) w) Q) ⟨n, ds, r⟩ l H) (k : ∀ z, φ z → HT P y Q ⟨n, ds, r⟩ (L z) (Hp w0 F (M z))) : HT P x (Exit.then (WP P r y Q) Q) ⟨n, ds, r⟩ l H := by
  unfold HT at *
  refine fun a w s hw => WP.mono (fun e a' w' q => ?_) (h a w s hw)
  cases e with
  | normal => obtain ⟨z, h1, h2, h3⟩ := q; exact k z h1 a' w' h2 h3
  | _ => exact q
theorem x_join {α : Type} {L : α → Slots} {φ : α → Prop} {M : α → List Item} (z : α) (hl : Has l (L z)) (hφ : φ z) (hI : ∀ w, Hp w0 F m w → Hp w0 F (M z) w) : HX (Exit.then (fun a w => ∃ z, φ z ∧ St N (L z) a ∧ Hp w0 F (M z) w) Q) .normal N l (Hp w0 F m) := by
  unfold HX
  exact fun a w s hw => ⟨z, hφ, s.sub hl.sub, hI w hw⟩
/-- What is read of old memory stays, if what turns is new. -/
theorem Rd.fr2 {w w1 w' : World} {G : Nat → Prop} {a : Option Addr} {xs : List Value} (h : Rd w a xs) (hw : Fr none' w w1) (hf : Fr G w1 w') (hG : ∀ k, G k → w.heap.size ≤ k) : Rd w' a xs := by
  rcases h with h | ⟨b, off, rfl, h⟩
  · exact .inl h
  · refine .inr ⟨b, off, rfl, fun j v hv => ?_⟩
    have h1 := h j v hv
    have hb := World.block_lt_of_cell? w _ h1
    have h2 : w1.cell? ⟨b, off + j, none⟩ = some v := by rw [← h1]; exact World.cell?_of_block (w := w) (hw.block b hb (fun h => h))
    rw [← h2]
    exact World.cell?_of_block (w := w1) (hf.block b (Nat.lt_of_lt_of_le hb hw.size) (fun hg => by have := hG b hg; exact absurd hb (by show ¬ b < _; omega)))
/-- An item beside what turns stays. -/
theorem Hp.beside {w w' : World} {pre : List Item} (hw : Hp w0 F (pre ++ m) w) {D : Item} (hm : D ∈ m) (hs : D.Stable none') (hf : Fr (foots pre) w w') : D.prop w' :=
  hs w w' (fun k hk => hk.elim (fun f => f.elim) fun hk => hf.block k ((hw.item D (List.mem_append_right _ hm)).2.2 k hk).1 (fun ⟨it, h1, h2⟩ => (List.pairwise_append.1 hw.apart).2.2 it h1 D hm k h2 hk)) (hw.item D (List.mem_append_right _ hm)).1
theorem zerosB (n : Nat) : zerosL (.int .u8 0) n = bytesV (List.replicate n 0) := by
  apply List.ext_getElem?
  intro i
  simp only [zerosL, bytesV, List.getElem?_map]
  by_cases h : i < n
  · rw [List.getElem?_range h, List.getElem?_replicate, if_pos h]
    have : i % (Value.int .u8 0).cells.size = 0 := Nat.mod_one i
    simp only [Option.map_some, this]; rfl
  · rw [List.getElem?_eq_none (by simpa using Nat.not_lt.1 h), List.getElem?_eq_none (by simpa using Nat.not_lt.1 h)]; rfl
theorem bytesV_set (T : List UInt8) (i : Nat) (c : UInt8) : (bytesV T).toArray.setIfInBounds i (.int .u8 (c.toNat : Int)) = (bytesV (T.set i c)).toArray := by
  rw [List.setIfInBounds_toArray]
  simp [bytesV, List.map_set]
theorem bytesV_put (L : Nat) (r : List UInt8) : put (bytesV (List.replicate L 0)) 0 (bytesV r) = bytesV (r ++ List.replicate (L - r.length) 0) := by
  simp [put, bytesV]
/-! ### Comparison with nil -/
theorem v_eqsn {T U e : TypeId} {x y : Operand} {a : Option Addr} {n c : Nat} (hx : evO l x = some (.slice a n c)) (hy : evO l y = some (.slice none 0 0)) (hT : sliE P T = some e) : OV P (.binOp .eql T x y U) ty l H (.bool a.isNone) := v_bin hx hy fun w => by
  show ((do pure (.bool (← Op.equal T (.slice a n c) (.slice none 0 0))) : Sem Value).run P w) = _
  rw [Sem.run_bind, run_equal_slice_nil w T e a n c (sliE_spec hT)]; rfl
/-! ### An empty literal -/
theorem o_build0 {T e : TypeId} {sz : Nat} (hok : okOp N l (.buildSlice T 0 #[]) d = true) (hT : sliE P T = some e) (hi : (P.info? e).isSome = true) :
    HO P ⟨some d, .buildSlice T 0 #[], ty, pos, after, g⟩ Q N l (Hp w0 F m) (α := { b : Nat // w0.heap.size ≤ b }) (fun c => (d, slV (some (c.1, 0)) 0) :: l) (fun c => Hp w0 F (own e sz (some (c.1, 0)) 0 [] :: m)) :=
  o_mem (val := fun c : { b : Nat // w0.heap.size ≤ b } => slV (some (c.1, 0)) 0) hok (fun w hw => by
    obtain ⟨i, h1⟩ := Option.isSome_iff_exists.1 hi
    refine ⟨⟨w.heap.size, hw.fr.size⟩, w.alloc (.cells #[] e), ?_, hw.newOwn ⟨by simp, Nat.le_refl _, Nat.zero_le _, #[], heap_alloc_new w _, by simp, by simp⟩⟩
    simp only [execOp, Instr.buildSlice, Sem.run_bind, run_underlying (sliE_spec hT) w, Result.andThen_ok, sizeOf, typeInfo]
    simp [newRow, h1, Instr.fill, slV]
    rw [show Array.map (fun _ : Nat => (default : Value)) (Array.range 0) = #[] from Array.eq_empty_of_size_eq_zero (by simp)])
/-! ### Texts and bytes -/
def u8E (P : Program) (T : TypeId) : Option TypeId := match P.underlying T with | some (.slice e) => (match P.underlying e with | some (.int .u8) => some e | _ => none) | _ => none
theorem u8E_spec {T e : TypeId} (h : u8E P T = some e) : P.underlying T = some (.slice e) ∧ P.underlying e = some (.int .u8) := by
  unfold u8E at h
  split at h
  · rename_i hu
    split at h
    · rename_i he; cases h; exact ⟨hu, he⟩
    · cases h
  · cases h
theorem bytesRow_cells (s : ByteArray) (c : Nat) (h : s.size ≤ c) : bytesRow s c = (bytesV s.data.toList ++ List.replicate (c - s.size) (Value.int .u8 0)).toArray := by
  apply Array.ext'
  simp [bytesRow, bytesV]
/-- What '[]byte(s)' lays. -/
abbrev strRow (e : TypeId) (s : List UInt8) (b c : Nat) : Item := pt b (.cells (bytesV s ++ List.replicate (c - s.length) (Value.int .u8 0)).toArray e (c, c + 1))
theorem strRow_at {w : World} {e : TypeId} {s : List UInt8} {b c : Nat} (h : (strRow e s b c).prop w) : w.rangeAt b 0 (bytesV s) := fun j v hj => by
  refine rangeAt_pt h j v ?_
  rw [List.getElem?_append_left (List.getElem?_eq_some_iff.1 hj).1]; exact hj
theorem o_strb {S T e : TypeId} {x : Operand} {s : ByteArray} (hok : okOp N l (.convert S T x) d = true) (hx : evO l x = some (.string s)) (hS : P.underlying S = some .string) (hT : u8E P T = some e) :
    HO P ⟨some d, .convert S T x, ty, pos, after, g⟩ Q N l (Hp w0 F m) (α := { p : Nat × Nat // w0.heap.size ≤ p.1 ∧ s.size ≤ p.2 }) (fun p => (d, .slice (some ⟨p.1.1, 0, none⟩) s.size p.1.2) :: l) (fun p => Hp w0 F (strRow e s.data.toList p.1.1 p.1.2 :: m)) :=
  o_mem (val := fun p : { p : Nat × Nat // w0.heap.size ≤ p.1 ∧ s.size ≤ p.2 } => .slice (some ⟨p.1.1, 0, none⟩) s.size p.1.2) hok (fun w hw => by
    have hg := grownCap_ge w s.size 0 e
    refine ⟨⟨(w.heap.size, grownCap w s.size 0 e), hw.fr.size, hg⟩, _, by simp only [execOp, ev_of hx, Sem.run_bind, run_bytes_of_string (P := P) w S T e s hS (u8E_spec hT).1 (u8E_spec hT).2]; rfl, ?_⟩
    have hsz : (bytesRow s (grownCap w s.size 0 e)).size = grownCap w s.size 0 e := by simp [bytesRow]; omega
    rw [hsz, bytesRow_cells s _ hg]
    have h1 := (hw.drew).alloc (.cells (bytesV s.data.toList ++ List.replicate (grownCap w s.size 0 e - s.size) (Value.int .u8 0)).toArray e (grownCap w s.size 0 e, grownCap w s.size 0 e + 1))
    show Hp w0 F (pt w.heap.size (.cells (bytesV s.data.toList ++ List.replicate (grownCap w s.size 0 e - s.data.toList.length) (Value.int .u8 0)).toArray e (grownCap w s.size 0 e, grownCap w s.size 0 e + 1)) :: m) _
    rw [ba_size s]
    exact h1)
theorem bytes_nil : (⟨#[]⟩ : ByteArray) = ByteArray.empty := rfl
/-- string(b). -/
theorem v_bstr {S T e : TypeId} {x : Operand} {a : Option Addr} {n c : Nat} {bs : List UInt8} (hx : evO l x = some (.slice a n c)) (hn : n = bs.length) (hS : u8E P S = some e) (hd : P.underlying T = some .string)
    (hr : ∀ w, Hp w0 F m w → Rd w a (bytesV bs)) : OV P (.convert S T x) ty l (Hp w0 F m) (.string ⟨bs.toArray⟩) := ov fun _ _ _ w hw => by
  obtain ⟨hs, he⟩ := u8E_spec hS
  rcases hr w hw with h | ⟨b, off, rfl, h⟩
  · have hz : bs = [] := by cases bs with | nil => rfl | cons c r => simp [bytesV] at h
    subst hz
    subst hn
    cases a with
    | none => simp [execOp, ev_of hx, convert, Sem.run_bind, run_underlying hs w, run_underlying hd w, run_underlying he w, Conv.bytesToString]; rfl
    | some a =>
      simp only [execOp, ev_of hx, Sem.run_bind, run_convert_bytes_back (P := P) w S T e a c [] hs he hd (fun j hj => by simp at hj)]
      exact congrArg (fun r => (Result.ok r w).andThen _) rfl
  · subst hn
    simp only [execOp, ev_of hx, Sem.run_bind, run_convert_bytes_back (P := P) w S T e ⟨b, off, none⟩ c bs hs he hd (fun j hj => by rw [add_at]; exact h j _ (bytesV_at hj))]
    rfl
/-! ### Arrays as slices -/
theorem v_slarr {T e : TypeId} {x : Operand} {b i n sz : Nat} (hx : evO l x = some (.pointer (some ⟨b, i, none⟩))) (hT : P.underlying T = some (.array n e)) (he : cellsT P e = some sz) (hn : Nat.ble 1 n = true) : OV P (.slice T x none none none) ty l H (.slice (some ⟨b, i, none⟩) n n) := ov fun _ _ _ w _ => by
  obtain ⟨q, h1, h2⟩ := cellsT_spec he
  have hn' := Nat.le_of_ble_eq_true hn
  have hne : ¬ n = 0 := by omega
  simp [execOp, ev_of hx, Instr.sliceAt, Instr.sureAddr, run_underlying hT w, Instr.sliceBounds, sizeOf, typeInfo, h1, hne, Addr.add]
theorem v_s2ap {T e : TypeId} {x : Operand} {a : Option Addr} {n k c : Nat} (hx : evO l x = some (.slice a k c)) (hT : P.underlying T = some (.array n e)) (hn : n ≤ k) : OV P (.sliceToArrayPointer T x) ty l H (.pointer a) := ov fun _ _ _ w _ => by
  have : ¬ k < n := by omega
  simp [execOp, ev_of hx, Instr.arrayAt, run_underlying hT w, this]
theorem slV_cells (o : Option (Nat × Nat)) (n : Nat) : (slV o n).cells = #[slV o n] := by cases o <;> rfl
theorem slV_one (o : Option (Nat × Nat)) (n : Nat) : (slV o n).oneCell' = true := by cases o <;> rfl
/-! ### Numbers -/
theorem v_subI {x y : Operand} {T U : TypeId} {a b : Int} (hx : evO l x = some (.int .i64 a)) (hy : evO l y = some (.int .i64 b)) (h : -9223372036854775808 ≤ a - b ∧ a - b < 9223372036854775808) : OV P (.binOp .sub T x y U) ty l H (.int .i64 (a - b)) := v_bin hx hy fun w => val_int w (i64_in _ h.1 h.2)
theorem v_max {T : Array TypeId} {x y : Operand} {k k' : IntKind} {a b : Int} {i j : Nat} [h : NatOf a i] [h' : NatOf b j] (hx : evO l x = some (.int k a)) (hy : evO l y = some (.int k' b)) : OV P (.call ⟨.builtin .max, #[x, y], T⟩) ty l H (.int k (max i j : Nat)) := ov fun _ _ _ w _ => by
  obtain rfl := h.eq; obtain rfl := h'.eq
  simp only [execOp, resolve, invoke, builtin]
  simp [ev_of hx, ev_of hy, run_max_int2]
  split <;> omega
/-- A number cut to a kind. -/
theorem v_cvM {S T : TypeId} {x : Operand} {k k' : IntKind} {a : Int} {n L q : Nat} [h : NatOf a n] [hL : Uns k' L q] (hx : evO l x = some (.int k a)) (hS : (P.underlying S).isSome = true) (hT : intK P T = some k') : OV P (.convert S T x) ty l H (.int k' ((n % L : Nat) : Int)) := ov fun _ _ _ w _ => by
  obtain rfl := h.eq
  obtain ⟨u, hu⟩ := Option.isSome_iff_exists.1 hS
  simp only [execOp, ev_of hx, convert, Sem.run_bind, run_underlying hu w, run_underlying (intK_spec hT) w, Result.andThen_ok, Conv.intToInt, Sem.run_pure, hL.wrap n]
theorem shl_or (a : Nat) (c : Nat) (h : a * 256 + 255 < 18446744073709551616) (hc : c < 256) : (a * 2 ^ 8 % 18446744073709551616) ||| c = a * 256 + c := by
  rw [Nat.mod_eq_of_lt (by omega)]
  have := Nat.shiftLeft_add_eq_or_of_lt (i := 8) (b := c) (by omega) a
  rw [Nat.shiftLeft_eq] at this
  rw [← this]
/-- A slice that has none. -/
theorem hp_nil1 {w : World} (e : TypeId) (sz : Nat) (h : Hp w0 F m w) : Hp w0 F (own e sz none 0 [] :: m) w := Hp.call0 (L := [own _ sz none 0 []]) h ⟨.refl _ _, fun it hm => by
  obtain rfl : it = own e sz none 0 [] := by simpa using hm
  exact ⟨⟨by simp, rfl⟩, own_stable _ _ _ _ _ _, fun k ⟨c, hk⟩ => nomatch hk⟩, .cons (fun _ h => nomatch h) .nil⟩
end Go.Eng
