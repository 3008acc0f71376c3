/- strings.Builder: Grow of a fresh one, WriteString, String. -/
import Derived.Test.YtdkonngkbbgcgaaGreatDoorRow
import Derived.Laws.Pointers
import Derived.Lib.Builder
import Derived.Lib.MakeNoZero
import Derived.Lib.UnsafeStr
import Derived.Lib.AppendStr
namespace Go.Eng
open Go.RowKit
open Go.Lib (strCells strCells_length run_append_room_string run_append_grow_string run_firstCells_string)
variable {P : Program} {Q : Exit → Act → World → Prop} {N : Fm} {l : Slots} {H : World → Prop} {ops : Array Oper} {rest : List Oper} {w0 : World} {F : Nat → Prop} {m : List Item} {ty : TypeId} {pos : String} {after : Array Edge} {g : Option (Nat × Bool)} {d : Nat}
def ptrE (P : Program) (T : TypeId) : Option TypeId := match P.underlying T with | some (.pointer e) => some e | _ => none
theorem ptrE_spec {T e : TypeId} (h : ptrE P T = some e) : P.underlying T = some (.pointer e) ∧ P.underlying T = some (.pointer (P.pointee T)) := by
  unfold ptrE at h
  split at h
  · rename_i hu; rw [hu]; cases h; exact ⟨rfl, by simp [Program.pointee, hu]⟩
  · cases h
theorem v_eqpn {T U e : TypeId} {x y : Operand} {p : Option Addr} (hx : evO l x = some (.pointer p)) (hy : evO l y = some (.pointer none)) (hT : ptrE P T = some e) : OV P (.binOp .eql T x y U) ty l H (.bool p.isNone) := v_bin hx hy fun w => by
  show ((binOp .eql T (.pointer p) (.pointer none)).run P w) = _
  exact run_eql_pointer_nil w T p (ptrE_spec hT).2
theorem v_nepn {T U e : TypeId} {x y : Operand} {p : Option Addr} (hx : evO l x = some (.pointer p)) (hy : evO l y = some (.pointer none)) (hT : ptrE P T = some e) : OV P (.binOp .neq T x y U) ty l H (.bool (!p.isNone)) := v_bin hx hy fun w => by
  show ((binOp .neq T (.pointer p) (.pointer none)).run P w) = _
  exact run_neq_pointer_nil w T p (ptrE_spec hT).2
theorem v_neps {T U e : TypeId} {x y : Operand} {a : Addr} (hx : evO l x = some (.pointer (some a))) (hy : evO l y = some (.pointer (some a))) (hT : ptrE P T = some e) (hi : (P.info? e).isSome = true) : OV P (.binOp .neq T x y U) ty l H (.bool false) := v_bin hx hy fun w => by
  show ((binOp .neq T (.pointer (some a)) (.pointer (some a))).run P w) = _
  obtain ⟨j, hj⟩ := Option.isSome_iff_exists.1 hi
  exact Lib.run_neq_ptr_same w a (ptrE_spec hT).1 hj
/-- A pointer of any kind, there and back, over a block that is there. -/
def isUns (P : Program) (T : TypeId) : Bool := match P.underlying T with | some .unsafePointer => true | _ => false
theorem isUns_spec {T : TypeId} (h : isUns P T = true) : P.underlying T = some .unsafePointer := by
  unfold isUns at h
  split at h
  · assumption
  · cases h
theorem v_toUns {T U e E : TypeId} {x : Operand} {b i : Nat} {cs : Array Value} {fz : Nat × Nat} (hx : evO l x = some (.pointer (some ⟨b, i, none⟩))) (hT : ptrE P T = some e) (hU : isUns P U = true) (hs : Nat.ble 1 ((cellsT P e).getD 0) = true) (hm : pt b (.cells cs E fz) ∈ m) (hi : i < cs.size) : OV P (.convert T U x) ty l (Hp w0 F m) (.pointer (some ⟨b, i, none⟩)) := ov fun _ _ _ w hw => by
  have hb := hw.get hm
  cases hq : cellsT P e with
  | none => rw [hq] at hs; cases hs
  | some n =>
    obtain ⟨j, h1, h2⟩ := cellsT_spec hq
    rw [hq] at hs
    have hsh : w.shape? b = some (E, cs.size) := by simp [World.shape?, hb]
    simp only [execOp, ev_of hx, Sem.run_bind]
    rw [Lib.run_to_unsafe w ⟨b, i, none⟩ (ptrE_spec hT).1 (isUns_spec hU) h1 (by have := Nat.le_of_ble_eq_true hs; simp at this; omega) hsh hi]
    rfl
theorem v_ofUns {T U e E : TypeId} {x : Operand} {b i : Nat} {cs : Array Value} {fz : Nat × Nat} (hx : evO l x = some (.pointer (some ⟨b, i, none⟩))) (hT : ptrE P T = some e) (hU : isUns P U = true) (hs : (P.info? e).isSome = true) (hm : pt b (.cells cs E fz) ∈ m) (hl : liesAt P P.depth E (cs.size / P.cellsOf E) i e 1 = true) : OV P (.convert U T x) ty l (Hp w0 F m) (.pointer (some ⟨b, i, none⟩)) := ov fun _ _ _ w hw => by
  have hb := hw.get hm
  obtain ⟨j, hj⟩ := Option.isSome_iff_exists.1 hs
  have hsh : w.shape? b = some (E, cs.size) := by simp [World.shape?, hb]
  simp only [execOp, ev_of hx, Sem.run_bind]
  rw [Lib.run_from_unsafe w ⟨b, i, none⟩ (isUns_spec hU) (ptrE_spec hT).1 hj hsh hl]
  rfl
/-- append(b, s...), s a string. -/
def bytesV (s : List UInt8) : List Value := s.map fun b => Value.int .u8 b.toNat
theorem strCells_eq (s : ByteArray) : strCells s = bytesV s.data.toList := by
  simp [strCells, bytesV]
theorem app_str {t u ty' e : TypeId} {i : TypeInfo} (ht : P.underlying t = some (.slice e)) (hu : P.underlying u = some .string) (hi : P.info? e = some i) (hz : i.zero = some (.int .u8 0)) (hs1 : i.size = 1) (hby : i.bytes = 1)
    {w : World} {o : Option (Nat × Nat)} {n : Nat} {xs : List Value} (hown : (own e 1 o n xs).prop w) (s : ByteArray) (h63 : n + s.size ≤ 140737488355328) :
    ∃ o' w', (Builtin.append_ #[t, u] ty' #[slV o n, .string s]).run P w = .ok (slV o' (n + s.size)) w' ∧ Its (fun k => ∃ c, o = some (k, c)) w [own e 1 o' (n + s.size) (xs ++ strCells s)] w' := by
  have hrow := own_row hown
  have hxl : xs.length = n := by simpa using hrow.1
  have hlen : (xs ++ strCells s).length = (n + s.size) * 1 := by rw [List.length_append, hxl, strCells_length, Nat.mul_one]
  have hmx : n + s.size ≤ maxLen := by unfold maxLen; omega
  have grown : ∀ (old : Nat), old < n + s.size →
      Its (fun k => ∃ c, o = some (k, c)) w [own e 1 (some (w.heap.size, grownCap w (n + s.size) old e)) (n + s.size) (xs ++ strCells s)] (w.drew.alloc (.cells (xs.toArray ++ (strCells s).toArray ++ Builtin.zeroCells (Value.int .u8 0).cells (grownCap w (n + s.size) old e - (n + s.size))) e)) := by
    intro old ho
    have hge := grownCap_ge w (n + s.size) old e
    refine its_own ⟨hlen, hge, grownCap_le_maxLen w (n + s.size) old e hmx, _, heap_alloc_new w.drew _, ?_, ?_⟩ (fr_grow rfl rfl rfl (by simp) fun j hj _ => Below.heap_alloc w.drew _ j hj) (fun b c' h => .inl (by cases h; exact Nat.le_refl _))
    · have hz1 : (Value.int IntKind.u8 0).cells.size = 1 := rfl
      simp only [Array.size_append, List.size_toArray, size_zeroCells, hz1, hxl, strCells_length]
      omega
    · simp only [Array.toList_append, List.append_assoc]
      rw [← List.append_assoc, ← hlen]
      exact List.take_left
  match o, hown with
  | none, hown =>
    obtain rfl : n = 0 := hown.2
    obtain rfl : xs = [] := List.eq_nil_of_length_eq_zero hxl
    by_cases hm : s.size = 0
    · have hn : strCells s = [] := List.eq_nil_of_length_eq_zero (by rw [strCells_length]; exact hm)
      refine ⟨none, w, ?_, ?_⟩
      · have hf := run_firstCells_string (P := P) w 1 s
        rw [hm] at hf
        simp [Builtin.append_, run_underlying ht, run_underlying hu, sizeOf, typeInfo, hi, hs1, Builtin.lenOf, hm, hf, slV]
      · rw [hn, hm]
        exact its_own (o := none) hown (.refl _ _) (fun _ _ h => by cases h)
    · have hr := run_append_nil_string (P := P) w t u ty' e i (.int .u8 0) ht hu hi hz s (by omega) (by omega) (by rw [hby]; omega)
      have hgr := grown 0 (by omega)
      simp only [Nat.zero_add, List.nil_append, Array.empty_append] at hgr ⊢
      have e1 : (s.data.map fun b => Value.int .u8 b.toNat) = (strCells s).toArray := by
        apply Array.ext'
        simp [strCells]
      rw [e1] at hr
      exact ⟨some (w.heap.size, grownCap w s.size 0 e), _, hr, hgr⟩
  | some (b, cap), hown =>
    obtain ⟨h2, h3, cur, h4, h5, h6⟩ := hown.2
    rw [Nat.mul_one] at h5 h6
    by_cases hroom : n + s.size ≤ cap
    · have hr := run_append_room_string (P := P) w t u ty' e i ht hu hi hs1 b n cap cur h4 s hroom (by omega)
      refine ⟨some (b, cap), _, hr, its_own ⟨hlen, hroom, h3, _, setRow_heap w b cur _ e _ h4, ?_, ?_⟩ (fr_grow rfl rfl rfl (by simp) fun j _ hj => setRow_other w b j _ (fun e => hj ⟨cap, by rw [e]⟩)) (fun b' c' h => .inr ⟨c', h⟩)⟩
      · simp only [List.size_toArray, List.length_append, List.length_take, List.length_drop, Array.length_toList, strCells_length]
        omega
      · rw [h6, ← hlen]
        exact List.take_left
    · have hr := run_append_grow_string (P := P) w t u ty' e i (.int .u8 0) ht hu hi hz ⟨b, 0, none⟩ n cap xs (by rw [hs1]; simpa using hxl) (hrow.cells (g := b) rfl) s (by omega) (by omega) (by rw [hby]; exact growslice_fits (by omega) (by omega))
      exact ⟨some (w.heap.size, grownCap w (n + s.size) cap e), _, hr, grown cap (by omega)⟩
def byteE (P : Program) (e : TypeId) : Bool := match P.info? e with | some ⟨_, _, sz, bt, _, _, _, some (.int .u8 0), _, _⟩ => Nat.beq sz 1 && Nat.beq bt 1 | _ => false
theorem byteE_spec {e : TypeId} (h : byteE P e = true) : ∃ i, P.info? e = some i ∧ i.zero = some (.int .u8 0) ∧ i.size = 1 ∧ i.bytes = 1 := by
  unfold byteE at h
  split at h
  · rename_i hi
    simp only [Bool.and_eq_true] at h
    exact ⟨_, hi, rfl, Nat.eq_of_beq_eq_true h.1, Nat.eq_of_beq_eq_true h.2⟩
  · cases h
theorem o_appstr {T U T' e : TypeId} {x y : Operand} {o : Option (Nat × Nat)} {n : Nat} {xs : List Value} {s : ByteArray} (hok : okOp N l (.call ⟨.builtin .append, #[x, y], #[T, U]⟩) d = true) (hx : evO l x = some (slV o n)) (hy : evO l y = some (.string s))
    (hT : sliE P T = some e) (hU : P.underlying U = some .string) (he : byteE P e = true) (hn : n + s.size ≤ 140737488355328) :
    HO P ⟨some d, .call ⟨.builtin .append, #[x, y], #[T, U]⟩, T', pos, after, g⟩ Q N l (Hp w0 F (own e 1 o n xs :: m)) (α := Option (Nat × Nat)) (fun o' => (d, slV o' (n + s.size)) :: l) (fun o' => Hp w0 F (own e 1 o' (n + s.size) (xs ++ bytesV s.data.toList) :: m)) :=
  o_mem (val := fun o' => slV o' (n + s.size)) hok (fun w hw => by
    obtain ⟨i, h1, h2, h3, h4⟩ := byteE_spec he
    obtain ⟨o', w', hr, hits⟩ := app_str (P := P) (ty' := T') (sliE_spec hT) hU h1 h2 h3 h4 (hw.item (own e 1 o n xs) (by simp)).1 s hn
    rw [strCells_eq] at hits
    refine ⟨o', w', ?_, Hp.call (m := [own e 1 o n xs]) hw hits (fun k' _ hk => ⟨own e 1 o n xs, by simp, hk⟩)⟩
    simp only [execOp, resolve, invoke, builtin]
    simp [ev_of hx, ev_of hy, hr])
/-- bytealg.MakeNoZero: a row of whatever bytes. -/
theorem o_mnz {f : FuncId} {fn : Func} {t e : TypeId} {x : Operand} {tys : Array TypeId} {k : Int} {n : Nat} [h : NatOf k n] (hok : okOp N l (.call ⟨.value (.func f), #[x], tys⟩) d = true) (hf : P.funcs[f]? = some fn) (hname : (fn.name == "runtime.NumGoroutine") = false) (hb : fn.body.isNone = true) (hne : Extern.findNext fn = none)
    (he : Extern.find fn = some (Extern.BytealgMakeNoZero.makeNoZero fn.params fn.resultTypes)) (hr : fn.resultTypes = #[t]) (hT : sliE P t = some e) (hx : evO l x = some (.int .i64 k)) (hn : n ≤ 281474976710656) :
    HO P ⟨some d, .call ⟨.value (.func f), #[x], tys⟩, ty, pos, after, g⟩ Q N l (Hp w0 F m) (α := { p : Nat × Array Value // n ≤ p.2.size ∧ p.2.size ≤ maxLen }) (fun p => (d, .slice (some ⟨p.1.1, 0, none⟩) n p.1.2.size) :: l) (fun p => Hp w0 F (pt p.1.1 (.cells p.1.2 e (0, 0)) :: m)) := by
  obtain rfl := h.eq
  exact o_mem (val := fun p : { p : Nat × Array Value // n ≤ p.2.size ∧ p.2.size ≤ maxLen } => .slice (some ⟨p.1.1, 0, none⟩) n p.1.2.size) hok (fun w hw => by
    obtain ⟨cs, h1, h2, h3⟩ := Lib.run_makeNoZero (P := P) w fn.params t e (sliE_spec hT) n hn
    refine ⟨⟨(w.heap.size, cs), h2, h3 (by unfold maxLen; omega)⟩, _, ?_, hw.drew.drew.alloc (.cells cs e)⟩
    have hcall : (callFunc f #[.int .i64 (n : Int)]).run P w = .ok (.value (.slice (some ⟨w.heap.size, 0, none⟩) n cs.size)) (w.drew.drew.alloc (.cells cs e)) := by
      rw [run_callFunc_extern hf hname hb hne he, hr, h1]; rfl
    simp only [execOp, resolve, Deferred.ofValue, ev]
    simp [ev_of hx, invoke, hcall])
theorem v_usd {T : Array TypeId} {x : Operand} {b c n : Nat} (hx : evO l x = some (.slice (some ⟨b, 0, none⟩) n c)) (hc : c ≠ 0) : OV P (.call ⟨.builtin .unsafeSliceData, #[x], T⟩) ty l H (.pointer (some ⟨b, 0, none⟩)) := ov fun _ _ _ w _ => by
  have h := Lib.run_unsafeSliceData_row (P := P) w T ty ⟨b, 0, none⟩ n c hc
  simp only [execOp, resolve, invoke, builtin]
  simp [ev_of hx, h]
theorem freeze_other {w : World} {b k n : Nat} (h : k ≠ b) : (w.freeze ⟨b, 0, none⟩ n).heap[k]? = w.heap[k]? := by
  unfold World.freeze
  split
  · rfl
  · simp [Array.getElem?_modify, Ne.symm h]
theorem freeze_size {w : World} {b n : Nat} : (w.freeze ⟨b, 0, none⟩ n).heap.size = w.heap.size := by
  unfold World.freeze
  split <;> simp
theorem freeze_rest {w : World} {b n : Nat} : (w.freeze ⟨b, 0, none⟩ n).os = w.os ∧ (w.freeze ⟨b, 0, none⟩ n).tape = w.tape ∧ (w.freeze ⟨b, 0, none⟩ n).output = w.output := by
  unfold World.freeze
  split <;> exact ⟨rfl, rfl, rfl⟩
theorem o_ustr {pt' it' T' e : TypeId} {x y : Operand} {b c n : Nat} {k : Int} [h : NatOf k n] {s : ByteArray} (hok : okOp N l (.call ⟨.builtin .unsafeString, #[x, y], #[pt', it']⟩) d = true) (hx : evO l x = some (.pointer (some ⟨b, 0, none⟩))) (hy : evO l y = some (.int .i64 k)) (hT : ptrE P pt' = some e) (hc : P.cellsOf e = 1) (h0 : 0 < n) (hn : n = s.size) :
    HO P ⟨some d, .call ⟨.builtin .unsafeString, #[x, y], #[pt', it']⟩, T', pos, after, g⟩ Q N l (Hp w0 F (own e 1 (some (b, c)) n (bytesV s.data.toList) :: m)) (α := Unit) (fun _ => (d, .string s) :: l) (fun _ => Hp w0 F m) := by
  obtain rfl := h.eq
  exact o_mem (val := fun _ => .string s) hok (fun w hw => by
    have hp := (hw.item (own e 1 (some (b, c)) n (bytesV s.data.toList)) (by simp)).1
    obtain ⟨h1, h2, cur, h3, h4, h5⟩ := hp.2
    have hsh : w.shape? b = some (e, cur.size) := by simp [World.shape?, h3]
    have hsl : s.data.toList.length = n := by rw [ba_size]; exact hn.symm
    have hr := Lib.run_unsafeString_row (P := P) w pt' it' T' e (ptrE_spec hT).1 hc b cur.size hsh s.data.toList (by intro h; rw [h] at hsl; simp at hsl; omega) (by rw [h4]; omega) (by unfold maxLen at h2; omega) (fun j x hx => by
      rw [add_at, Nat.zero_add]
      exact own_rd hp j _ (by simp [bytesV, hx]))
    refine ⟨(), w.freeze ⟨b, 0, none⟩ n, ?_, ?_⟩
    · simp only [execOp, resolve, invoke, builtin]
      rw [hsl] at hr
      simp [ev_of hx, ev_of hy, hr]
    · obtain ⟨f1, f2, f3⟩ := freeze_rest (w := w) (b := b) (n := n)
      have := Hp.call (L := []) (m := [own e 1 (some (b, c)) n (bytesV s.data.toList)]) (m2 := m) (Fc := fun k => k = b) hw ⟨⟨f1, f2, f3, Nat.le_of_eq freeze_size.symm, fun k _ hk => freeze_other hk⟩, (fun it hm => by cases hm), .nil⟩ (fun k _ hk => ⟨own e 1 (some (b, c)) n (bytesV s.data.toList), by simp, ⟨c, by rw [hk]⟩⟩)
      simpa using this)
/-! ### ends of functions without results -/
theorem x_ct0 {n : Nat} {fn : Func} {α : Type} {val : α → Value} {φ : α → Prop} {its : α → List Item} (x : α) (hf : fn.results = #[]) (e : .tuple #[] = val x) (hφ : φ x) (hs : (its x).Sublist m) (hst : ∀ it ∈ its x, it.Stable none') : HX (bodyPost P fn (ctPost w0 F val φ its)) .ret ⟨n, [], none⟩ l (Hp w0 F m) :=
  x_ret0 hf fun _ hw => ⟨x, by rw [e], hφ, hw.its hs hst⟩
theorem x_ct0N {n : Nat} {fn : Func} {α : Type} {val : α → Value} {φ : α → Prop} {its : α → List Item} (x : α) (hf : fn.results = #[]) (e : .tuple #[] = val x) (hφ : φ x) (hs : (its x).Sublist m) (hst : ∀ it ∈ its x, it.Stable none') : HX (bodyPost P fn (ctPost w0 F val φ its)) .normal ⟨n, [], none⟩ l (Hp w0 F m) :=
  x_end0 hf fun _ hw => ⟨x, by rw [e], hφ, hw.its hs hst⟩
theorem v_caps {x : Operand} {T : TypeId} {a : Option Addr} {n c : Nat} (hx : evO l x = some (.slice a n c)) (hT : (sliE P T).isSome = true) : OV P (.call ⟨.builtin .cap, #[x], #[T]⟩) ty l H (.int .i64 c) := ov fun _ _ _ w _ => by
  obtain ⟨e, he⟩ := Option.isSome_iff_exists.1 hT
  simp [execOp, resolve, invoke, builtin, ev_of hx, Builtin.cap_, run_underlying (sliE_spec he) w, goInt]
/-- A region that draws, in which the first item is given up. -/
theorem t_drawt {id : Nat} {r : List Oper} {it : Item} (hm : drawOk P r = true) (h : HD P r.toArray Q (Hp w0 F m) r.length N r.length (Array.replicate r.length false) l (Hp w0 F (it :: m))) : HT P (.region id r.toArray true) Q N l (Hp w0 F (it :: m)) := by
  unfold HT HD at *
  intro a w s hw
  simp only [drawOk, Bool.and_eq_true, List.all_eq_true] at hm
  refine wpIn_mono (wpIn_region_any (Q := calm Q) hm.1 (any_in (by simpa using hm.2) calm_out N.r _ _ _ _ (wpAny_of_K (S := Hp w0 F m) (t := r.length) _ _ _ _ ?_))) (fun _ _ _ h => calm_le h)
  have := h (by simpa using headInv_start r.toArray r.length) a w.drew s hw.drew
  simpa using this
end Go.Eng
