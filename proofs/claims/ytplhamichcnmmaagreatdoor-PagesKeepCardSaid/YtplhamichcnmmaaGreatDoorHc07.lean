/- strings.Builder: Grow of a fresh one, WriteString, String. -/
/- Items by their places; calls of function values that take items over. Own work; no condition. -/
/- Words of 32 bits, as bit vectors: what each operation gives. -/
/- The checksum of bytes: by half bytes, and bit by bit; both give the same, and each byte counts. -/
/- The document's constants by roots: what its loops compute, and that these are the program's constants. -/
/- The hash of bytes: what it is, over words of 32 bits. -/
/- Words of bytes as the program and the document put them together; bytes of numbers. -/
/- Openers and streams: what is read of bytes, what is put, and that each answers the other. -/
import Derived.Test.YtplhamichcnmmaaGreatDoorHc05
import Derived.Laws.Pointers
import Derived.Lib.Builder
import Derived.Lib.MakeNoZero
import Derived.Lib.UnsafeStr
import Derived.Lib.AppendStr
import Derived.Test.YtplhamichcnmmaaGreatDoorHc04
namespace Go.Eng
open Go.RowKit
open Go.Lib (strCells strCells_length run_append_room_string run_append_grow_string run_firstCells_string)
variable {P : Program} {Q : Exit → Act → World → Prop} {N : Fm} {l : Slots} {H : World → Prop} {ops : Array Oper} {rest : List Oper} {w0 : World} {F : Nat → Prop} {m : List Item} {ty : TypeId} {pos : String} {after : Array Edge} {g : Option (Nat × Bool)} {d : Nat}
def ptrE (P : Program) (T : TypeId) : Option TypeId := match P.underlying T with | some (.pointer e) => some e | _ => none
theorem ptrE_spec {T e : TypeId} (h : ptrE P T = some e) : P.underlying T = some (.pointer e) ∧ P.underlying T = some (.pointer (P.pointee T)) := by
  unfold ptrE at h
  split at h
  · rename_i hu; rw [hu]; cases h; exact ⟨rfl, by simp [Program.pointee, hu]⟩
  · cases h
theorem v_eqpn {T U e : TypeId} {x y : Operand} {p : Option Addr} (hx : evO l x = some (.pointer p)) (hy : evO l y = some (.pointer none)) (hT : ptrE P T = some e) : OV P (.binOp .eql T x y U) ty l H (.bool p.isNone) := v_bin hx hy fun w => by
  show ((binOp .eql T (.pointer p) (.pointer none)).run P w) = _
  exact run_eql_pointer_nil w T p (ptrE_spec hT).2
theorem v_nepn {T U e : TypeId} {x y : Operand} {p : Option Addr} (hx : evO l x = some (.pointer p)) (hy : evO l y = some (.pointer none)) (hT : ptrE P T = some e) : OV P (.binOp .neq T x y U) ty l H (.bool (!p.isNone)) := v_bin hx hy fun w => by
  show ((binOp .neq T (.pointer p) (.pointer none)).run P w) = _
  exact run_neq_pointer_nil w T p (ptrE_spec hT).2
theorem v_neps {T U e : TypeId} {x y : Operand} {a : Addr} (hx : evO l x = some (.pointer (some a))) (hy : evO l y = some (.pointer (some a))) (hT : ptrE P T = some e) (hi : (P.info? e).isSome = true) : OV P (.binOp .neq T x y U) ty l H (.bool false) := v_bin hx hy fun w => by
  show ((binOp .neq T (.pointer (some a)) (.pointer (some a))).run P w) = _
  obtain ⟨j, hj⟩ := Option.isSome_iff_exists.1 hi
  exact Lib.run_neq_ptr_same w a (ptrE_spec hT).1 hj
def isUns (P : Program) (T : TypeId) : Bool := match P.underlying T with | some .unsafePointer => true | _ => false
theorem isUns_spec {T : TypeId} (h : isUns P T = true) : P.underlying T = some .unsafePointer := by
  unfold isUns at h
  split at h
  · assumption
  · cases h
theorem v_toUns {T U e E : TypeId} {x : Operand} {b i : Nat} {cs : Array Value} {fz : Nat × Nat} (hx : evO l x = some (.pointer (some ⟨b, i, none⟩))) (hT : ptrE P T = some e) (hU : isUns P U = true) (hs : Nat.ble 1 ((cellsT P e).getD 0) = true) (hm : pt b (.cells cs E fz) ∈ m) (hi : i < cs.size) : OV P (.convert T U x) ty l (Hp w0 F m) (.pointer (some ⟨b, i, none⟩)) := ov fun _ _ _ w hw => by
  have hb := hw.get hm
  cases hq : cellsT P e with
  | none => rw [hq] at hs; cases hs
  | some n =>
    obtain ⟨j, h1, h2⟩ := cellsT_spec hq
    rw [hq] at hs
    have hsh : w.shape? b = some (E, cs.size) := by simp [World.shape?, hb]
    simp only [execOp, ev_of hx, Sem.run_bind]
    rw [Lib.run_to_unsafe w ⟨b, i, none⟩ (ptrE_spec hT).1 (isUns_spec hU) h1 (by have := Nat.le_of_ble_eq_true hs; simp at this; omega) hsh hi]
    rfl
theorem v_ofUns {T U e E : TypeId} {x : Operand} {b i : Nat} {cs : Array Value} {fz : Nat × Nat} (hx : evO l x = some (.pointer (some ⟨b, i, none⟩))) (hT : ptrE P T = some e) (hU : isUns P U = true) (hs : (P.info? e).isSome = true) (hm : pt b (.cells cs E fz) ∈ m) (hl : liesAt P P.depth E (cs.size / P.cellsOf E) i e 1 = true) : OV P (.convert U T x) ty l (Hp w0 F m) (.pointer (some ⟨b, i, none⟩)) := ov fun _ _ _ w hw => by
  have hb := hw.get hm
  obtain ⟨j, hj⟩ := Option.isSome_iff_exists.1 hs
  have hsh : w.shape? b = some (E, cs.size) := by simp [World.shape?, hb]
  simp only [execOp, ev_of hx, Sem.run_bind]
  rw [Lib.run_from_unsafe w ⟨b, i, none⟩ (isUns_spec hU) (ptrE_spec hT).1 hj hsh hl]
  rfl
def bytesV (s : List UInt8) : List Value := s.map fun b => Value.int .u8 b.toNat
theorem strCells_eq (s : ByteArray) : strCells s = bytesV s.data.toList := by
  simp [strCells, bytesV]
theorem app_str {t u ty' e : TypeId} {i : TypeInfo} (ht : P.underlying t = some (.slice e)) (hu : P.underlying u = some .string) (hi : P.info? e = some i) (hz : i.zero = some (.int .u8 0)) (hs1 : i.size = 1) (hby : i.bytes = 1)
    {w : World} {o : Option (Nat × Nat)} {n : Nat} {xs : List Value} (hown : (own e 1 o n xs).prop w) (s : ByteArray) (h63 : n + s.size ≤ 140737488355328) :
    ∃ o' w', (Builtin.append_ #[t, u] ty' #[slV o n, .string s]).run P w = .ok (slV o' (n + s.size)) w' ∧ Its (fun k => ∃ c, o = some (k, c)) w [own e 1 o' (n + s.size) (xs ++ strCells s)] w' := by
  have hrow := own_row hown
  have hxl : xs.length = n := by simpa using hrow.1
  have hlen : (xs ++ strCells s).length = (n + s.size) * 1 := by rw [List.length_append, hxl, strCells_length, Nat.mul_one]
  have hmx : n + s.size ≤ maxLen := by unfold maxLen; omega
  have grown : ∀ (old : Nat), old < n + s.size →
      Its (fun k => ∃ c, o = some (k, c)) w [own e 1 (some (w.heap.size, grownCap w (n + s.size) old e)) (n + s.size) (xs ++ strCells s)] (w.drew.alloc (.cells (xs.toArray ++ (strCells s).toArray ++ Builtin.zeroCells (Value.int .u8 0).cells (grownCap w (n + s.size) old e - (n + s.size))) e)) := by
    intro old ho
    have hge := grownCap_ge w (n + s.size) old e
    refine its_own ⟨hlen, hge, grownCap_le_maxLen w (n + s.size) old e hmx, _, heap_alloc_new w.drew _, ?_, ?_⟩ (fr_grow rfl rfl rfl (by simp) fun j hj _ => Below.heap_alloc w.drew _ j hj) (fun b c' h => .inl (by cases h; exact Nat.le_refl _))
    · have hz1 : (Value.int IntKind.u8 0).cells.size = 1 := rfl
      simp only [Array.size_append, List.size_toArray, size_zeroCells, hz1, hxl, strCells_length]
      omega
    · simp only [Array.toList_append, List.append_assoc]
      rw [← List.append_assoc, ← hlen]
      exact List.take_left
  match o, hown with
  | none, hown =>
    obtain rfl : n = 0 := hown.2
    obtain rfl : xs = [] := List.eq_nil_of_length_eq_zero hxl
    by_cases hm : s.size = 0
    · have hn : strCells s = [] := List.eq_nil_of_length_eq_zero (by rw [strCells_length]; exact hm)
      refine ⟨none, w, ?_, ?_⟩
      · have hf := run_firstCells_string (P := P) w 1 s
        rw [hm] at hf
        simp [Builtin.append_, run_underlying ht, run_underlying hu, sizeOf, typeInfo, hi, hs1, Builtin.lenOf, hm, hf, slV]
      · rw [hn, hm]
        exact its_own (o := none) hown (.refl _ _) (fun _ _ h => by cases h)
    · have hr := run_append_nil_string (P := P) w t u ty' e i (.int .u8 0) ht hu hi hz s (by omega) (by omega) (by rw [hby]; omega)
      have hgr := grown 0 (by omega)
      simp only [Nat.zero_add, List.nil_append, Array.empty_append] at hgr ⊢
      have e1 : (s.data.map fun b => Value.int .u8 b.toNat) = (strCells s).toArray := by
        apply Array.ext'
        simp [strCells]
      rw [e1] at hr
      exact ⟨some (w.heap.size, grownCap w s.size 0 e), _, hr, hgr⟩
  | some (b, cap), hown =>
    obtain ⟨h2, h3, cur, h4, h5, h6⟩ := hown.2
    rw [Nat.mul_one] at h5 h6
    by_cases hroom : n + s.size ≤ cap
    · have hr := run_append_room_string (P := P) w t u ty' e i ht hu hi hs1 b n cap cur h4 s hroom (by omega)
      refine ⟨some (b, cap), _, hr, its_own ⟨hlen, hroom, h3, _, setRow_heap w b cur _ e _ h4, ?_, ?_⟩ (fr_grow rfl rfl rfl (by simp) fun j _ hj => setRow_other w b j _ (fun e => hj ⟨cap, by rw [e]⟩)) (fun b' c' h => .inr ⟨c', h⟩)⟩
      · simp only [List.size_toArray, List.length_append, List.length_take, List.length_drop, Array.length_toList, strCells_length]
        omega
      · rw [h6, ← hlen]
        exact List.take_left
    · have hr := run_append_grow_string (P := P) w t u ty' e i (.int .u8 0) ht hu hi hz ⟨b, 0, none⟩ n cap xs (by rw [hs1]; simpa using hxl) (hrow.cells (g := b) rfl) s (by omega) (by omega) (by rw [hby]; exact growslice_fits (by omega) (by omega))
      exact ⟨some (w.heap.size, grownCap w (n + s.size) cap e), _, hr, grown cap (by omega)⟩
def byteE (P : Program) (e : TypeId) : Bool := match P.info? e with | some ⟨_, _, sz, bt, _, _, _, some (.int .u8 0), _, _⟩ => Nat.beq sz 1 && Nat.beq bt 1 | _ => false
theorem byteE_spec {e : TypeId} (h : byteE P e = true) : ∃ i, P.info? e = some i ∧ i.zero = some (.int .u8 0) ∧ i.size = 1 ∧ i.bytes = 1 := by
  unfold byteE at h
  split at h
  · rename_i hi
    simp only [Bool.and_eq_true] at h
    exact ⟨_, hi, rfl, Nat.eq_of_beq_eq_true h.1, Nat.eq_of_beq_eq_true h.2⟩
  · cases h
theorem o_appstr {T U T' e : TypeId} {x y : Operand} {o : Option (Nat × Nat)} {n : Nat} {xs : List Value} {s : ByteArray} (hok : okOp N l (.call ⟨.builtin .append, #[x, y], #[T, U]⟩) d = true) (hx : evO l x = some (slV o n)) (hy : evO l y = some (.string s))
    (hT : sliE P T = some e) (hU : P.underlying U = some .string) (he : byteE P e = true) (hn : n + s.size ≤ 140737488355328) :
    HO P ⟨some d, .call ⟨.builtin .append, #[x, y], #[T, U]⟩, T', pos, after, g⟩ Q N l (Hp w0 F (own e 1 o n xs :: m)) (α := Option (Nat × Nat)) (fun o' => (d, slV o' (n + s.size)) :: l) (fun o' => Hp w0 F (own e 1 o' (n + s.size) (xs ++ bytesV s.data.toList) :: m)) :=
  o_mem (val := fun o' => slV o' (n + s.size)) hok (fun w hw => by
    obtain ⟨i, h1, h2, h3, h4⟩ := byteE_spec he
    obtain ⟨o', w', hr, hits⟩ := app_str (P := P) (ty' := T') (sliE_spec hT) hU h1 h2 h3 h4 (hw.item (own e 1 o n xs) (by simp)).1 s hn
    rw [strCells_eq] at hits
    refine ⟨o', w', ?_, Hp.call (m := [own e 1 o n xs]) hw hits (fun k' _ hk => ⟨own e 1 o n xs, by simp, hk⟩)⟩
    simp only [execOp, resolve, invoke, builtin]
    simp [ev_of hx, ev_of hy, hr])
theorem o_mnz {f : FuncId} {fn : Func} {t e : TypeId} {x : Operand} {tys : Array TypeId} {k : Int} {n : Nat} [h : NatOf k n] (hok : okOp N l (.call ⟨.value (.func f), #[x], tys⟩) d = true) (hf : P.funcs[f]? = some fn) (hname : (fn.name == "runtime.NumGoroutine") = false) (hb : fn.body.isNone = true) (hne : Extern.findNext fn = none)
    (he : Extern.find fn = some (Extern.BytealgMakeNoZero.makeNoZero fn.params fn.resultTypes)) (hr : fn.resultTypes = #[t]) (hT : sliE P t = some e) (hx : evO l x = some (.int .i64 k)) (hn : n ≤ 281474976710656) :
    HO P ⟨some d, .call ⟨.value (.func f), #[x], tys⟩, ty, pos, after, g⟩ Q N l (Hp w0 F m) (α := { p : Nat × Array Value // n ≤ p.2.size ∧ p.2.size ≤ maxLen }) (fun p => (d, .slice (some ⟨p.1.1, 0, none⟩) n p.1.2.size) :: l) (fun p => Hp w0 F (pt p.1.1 (.cells p.1.2 e (0, 0)) :: m)) := by
  obtain rfl := h.eq
  exact o_mem (val := fun p : { p : Nat × Array Value // n ≤ p.2.size ∧ p.2.size ≤ maxLen } => .slice (some ⟨p.1.1, 0, none⟩) n p.1.2.size) hok (fun w hw => by
    obtain ⟨cs, h1, h2, h3⟩ := Lib.run_makeNoZero (P := P) w fn.params t e (sliE_spec hT) n hn
    refine ⟨⟨(w.heap.size, cs), h2, h3 (by unfold maxLen; omega)⟩, _, ?_, hw.drew.drew.alloc (.cells cs e)⟩
    have hcall : (callFunc f #[.int .i64 (n : Int)]).run P w = .ok (.value (.slice (some ⟨w.heap.size, 0, none⟩) n cs.size)) (w.drew.drew.alloc (.cells cs e)) := by
      rw [run_callFunc_extern hf hname hb hne he, hr, h1]; rfl
    simp only [execOp, resolve, Deferred.ofValue, ev]
    simp [ev_of hx, invoke, hcall])
theorem v_usd {T : Array TypeId} {x : Operand} {b c n : Nat} (hx : evO l x = some (.slice (some ⟨b, 0, none⟩) n c)) (hc : c ≠ 0) : OV P (.call ⟨.builtin .unsafeSliceData, #[x], T⟩) ty l H (.pointer (some ⟨b, 0, none⟩)) := ov fun _ _ _ w _ => by
  have h := Lib.run_unsafeSliceData_row (P := P) w T ty ⟨b, 0, none⟩ n c hc
  simp only [execOp, resolve, invoke, builtin]
  simp [ev_of hx, h]
theorem freeze_other {w : World} {b k n : Nat} (h : k ≠ b) : (w.freeze ⟨b, 0, none⟩ n).heap[k]? = w.heap[k]? := by
  unfold World.freeze
  split
  · rfl
  · simp [Array.getElem?_modify, Ne.symm h]
theorem freeze_size {w : World} {b n : Nat} : (w.freeze ⟨b, 0, none⟩ n).heap.size = w.heap.size := by
  unfold World.freeze
  split <;> simp
theorem freeze_rest {w : World} {b n : Nat} : (w.freeze ⟨b, 0, none⟩ n).os = w.os ∧ (w.freeze ⟨b, 0, none⟩ n).tape = w.tape ∧ (w.freeze ⟨b, 0, none⟩ n).output = w.output := by
  unfold World.freeze
  split <;> exact ⟨rfl, rfl, rfl⟩
/-! ### ends of functions without results -/
theorem x_ct0N {n : Nat} {fn : Func} {α : Type} {val : α → Value} {φ : α → Prop} {its : α → List Item} (x : α) (hf : fn.results = #[]) (e : .tuple #[] = val x) (hφ : φ x) (hs : (its x).Sublist m) (hst : ∀ it ∈ its x, it.Stable none') : HX (bodyPost P fn (ctPost w0 F val φ its)) .normal ⟨n, [], none⟩ l (Hp w0 F m) :=
  x_end0 hf fun _ hw => ⟨x, by rw [e], hφ, hw.its hs hst⟩
theorem v_caps {x : Operand} {T : TypeId} {a : Option Addr} {n c : Nat} (hx : evO l x = some (.slice a n c)) (hT : (sliE P T).isSome = true) : OV P (.call ⟨.builtin .cap, #[x], #[T]⟩) ty l H (.int .i64 c) := ov fun _ _ _ w _ => by
  obtain ⟨e, he⟩ := Option.isSome_iff_exists.1 hT
  simp [execOp, resolve, invoke, builtin, ev_of hx, Builtin.cap_, run_underlying (sliE_spec he) w, goInt]
theorem t_drawt {id : Nat} {r : List Oper} {it : Item} (hm : drawOk P r = true) (h : HD P r.toArray Q (Hp w0 F m) r.length N r.length (Array.replicate r.length false) l (Hp w0 F (it :: m))) : HT P (.region id r.toArray true) Q N l (Hp w0 F (it :: m)) := by
  unfold HT HD at *
  intro a w s hw
  simp only [drawOk, Bool.and_eq_true, List.all_eq_true] at hm
  refine wpIn_mono (wpIn_region_any (Q := calm Q) hm.1 (any_in (by simpa using hm.2) calm_out N.r _ _ _ _ (wpAny_of_K (S := Hp w0 F m) (t := r.length) _ _ _ _ ?_))) (fun _ _ _ h => calm_le h)
  have := h (by simpa using headInv_start r.toArray r.length) a w.drew s hw.drew
  simpa using this
end Go.Eng

namespace Go.Eng
open Go.RowKit
variable {P : Program} {Q : Exit → Act → World → Prop} {N : Fm} {l : Slots} {H : World → Prop} {ops : Array Oper} {rest : List Oper} {w0 : World} {F : Nat → Prop} {m m' : List Item} {ty : TypeId} {pos : String} {after : Array Edge} {g : Option (Nat × Bool)} {d : Nat}
def pickI (m : List Item) : List Nat → Option (List Item)
  | [] => some []
  | i :: r => match nth m i, pickI m r with
    | some x, some L => some (x :: L)
    | _, _ => none
def distB : List Nat → Bool
  | [] => true
  | i :: r => !isIn r i && distB r
theorem isIn_iff : ∀ {L : List Nat} {i : Nat}, isIn L i = true ↔ i ∈ L
  | [], _ => by simp [isIn]
  | x :: r, i => by
    simp only [isIn, Bool.or_eq_true, List.mem_cons, isIn_iff (L := r)]
    constructor
    · rintro (h | h)
      · exact .inl (Nat.eq_of_beq_eq_true h).symm
      · exact .inr h
    · rintro (rfl | h)
      · exact .inl (Nat.beq_refl _)
      · exact .inr h
theorem pickI_mem : ∀ {is : List Nat} {m' : List Item}, pickI m is = some m' → ∀ x ∈ m', ∃ i ∈ is, m[i]? = some x
  | [], m', h, x, hx => by simp only [pickI, Option.some.injEq] at h; subst h; cases hx
  | i :: r, m', h, x, hx => by
    simp only [pickI] at h
    split at h
    · rename_i y L h1 h2
      simp only [Option.some.injEq] at h
      subst h
      rcases List.mem_cons.1 hx with rfl | hx
      · exact ⟨i, by simp, by rw [← nth_eq]; exact h1⟩
      · obtain ⟨j, hj, h3⟩ := pickI_mem h2 x hx
        exact ⟨j, by simp [hj], h3⟩
    · cases h
theorem pickI_apart (hm : m.Pairwise Item.Apart) : ∀ {is : List Nat} {m' : List Item}, distB is = true → pickI m is = some m' → m'.Pairwise Item.Apart
  | [], m', _, h => by simp only [pickI, Option.some.injEq] at h; subst h; exact .nil
  | i :: r, m', hd, h => by
    simp only [distB, Bool.and_eq_true, Bool.not_eq_true'] at hd
    simp only [pickI] at h
    split at h
    · rename_i y L h1 h2
      simp only [Option.some.injEq] at h
      subst h
      refine List.pairwise_cons.2 ⟨fun z hz => ?_, pickI_apart hm hd.2 h2⟩
      obtain ⟨j, hj, h3⟩ := pickI_mem h2 z hz
      have hij : i ≠ j := fun e => by
        subst e
        have := isIn_iff.2 hj
        rw [hd.1] at this; cases this
      rw [nth_eq] at h1
      obtain ⟨a1, a2⟩ := List.getElem?_eq_some_iff.1 h1
      obtain ⟨b1, b2⟩ := List.getElem?_eq_some_iff.1 h3
      rcases Nat.lt_or_gt_of_ne hij with hlt | hlt
      · have := List.pairwise_iff_getElem.1 hm i j a1 b1 hlt
        rwa [a2, b2] at this
      · have := List.pairwise_iff_getElem.1 hm j i b1 a1 hlt
        rw [a2, b2] at this
        exact fun k h h' => this k h' h
    · cases h
theorem Hp.pick {w : World} (hw : Hp w0 F m w) (is : List Nat) (hd : distB is = true) (h : pickI m is = some m') : Hp w0 F m' w :=
  ⟨hw.fr, fun it hm => by obtain ⟨i, -, hi⟩ := pickI_mem h it hm; exact hw.item it (List.mem_of_getElem? hi), pickI_apart hw.apart hd h⟩
theorem l_pick (is : List Nat) (hd : distB is = true) (h : pickI m is = some m') (k : HL P ops Q N rest l (Hp w0 F m')) : HL P ops Q N rest l (Hp w0 F m) := l_imp (fun _ hw => hw.pick is hd h) k
theorem t_pick {c : Code} (is : List Nat) (hd : distB is = true) (h : pickI m is = some m') (k : HT P c Q N l (Hp w0 F m')) : HT P c Q N l (Hp w0 F m) := t_imp (fun _ hw => hw.pick is hd h) k
theorem x_pick {e : Exit} (is : List Nat) (hd : distB is = true) (h : pickI m is = some m') (k : HX Q e N l (Hp w0 F m')) : HX Q e N l (Hp w0 F m) := x_imp (fun _ hw => hw.pick is hd h) k
theorem d_pick {S : World → Prop} {t n : Nat} {listed : Array Bool} (is : List Nat) (hd : distB is = true) (h : pickI m is = some m') (k : HD P ops Q S t N n listed l (Hp w0 F m')) : HD P ops Q S t N n listed l (Hp w0 F m) := by
  unfold HD at *; exact fun inv a w s hw => k inv a w s (hw.pick is hd h)
theorem Hp.out {w : World} (hw : Hp w0 F m w) {b : Nat} (hb : b < w0.heap.size) (hF : ¬ F b) : ¬ foots m b := fun ⟨it, hm, hk⟩ => hF ((hw.item it hm).2.2 b hk |>.2 hb)
theorem Gh.In.lt {h : Gh} {w : World} (hi : h.In w) {b : Nat} (hb : (h b).isSome = true) : b < w.heap.size := by
  obtain ⟨o, ho⟩ := Option.isSome_iff_exists.1 hb
  exact (Array.getElem?_eq_some_iff.1 (hi b o ho)).1
theorem Gh.In.out {h : Gh} {w : World} (hi : h.In w0) (hF : ∀ b, (h b).isSome = true → ¬ F b) (hw : Hp w0 F m w) : ∀ b, (h b).isSome = true → ¬ foots m b := fun b hb => hw.out (hi.lt hb) (hF b hb)
theorem o_cuF {f : FuncId} {x : Operand} {fs cs : List Value} {xs : List Operand} {tys : Array TypeId} {vs us : List Value} {pre : List Item} {α : Type} {val : α → Value} {φ : α → Prop} {its : α → List Item}
    (hok : okOp N l (.call ⟨.value x, xs.toArray, tys⟩) d = true) (hb : hasBody P f = true) (hf : evO l x = some (.func (.func f) fs.toArray cs.toArray)) (hx : evs l xs = some vs) (hu : fs ++ (vs ++ cs) = us) (hst : ∀ it ∈ pre, it.Stable none')
    (hc : ∀ w, Hp w0 F (pre ++ m) w → (∀ it ∈ pre, Here it w) → pre.Pairwise Item.Apart → Ct P f us.toArray w (foots pre) val φ its) :
    HO P ⟨some d, .call ⟨.value x, xs.toArray, tys⟩, ty, pos, after, g⟩ Q N l (Hp w0 F (pre ++ m)) (α := { x : α // φ x }) (fun x => (d, val x.1) :: l) (fun x => Hp w0 F (its x.1 ++ m)) :=
  o_call (val := fun x : { x : α // φ x } => val x.1) hok (entersF hf hb hx hu) (fun w hw => (Ct.calls (hc w hw (fun it hm => have h := hw.item it (List.mem_append_left _ hm); ⟨h.1, hst it hm, fun k hk => (h.2.2 k hk).1⟩) (List.pairwise_append.1 hw.apart).1)).mono fun _ _ ⟨x, he, hx, hi⟩ => ⟨⟨x, hx⟩, he, hw.call hi fun _ _ ⟨it, hm, hk⟩ => ⟨it, hm, hk⟩⟩)
theorem o_ctF {f : FuncId} {x : Operand} {fs cs : List Value} {xs : List Operand} {tys : Array TypeId} {vs us : List Value} {α : Type} {val : α → Value} {φ : α → Prop} {its : α → List Item}
    (hok : okOp N l (.call ⟨.value x, xs.toArray, tys⟩) d = true) (hb : hasBody P f = true) (hf : evO l x = some (.func (.func f) fs.toArray cs.toArray)) (hx : evs l xs = some vs) (hu : fs ++ (vs ++ cs) = us)
    (hc : ∀ w, Hp w0 F m w → Ct P f us.toArray w none' val φ its) :
    HO P ⟨some d, .call ⟨.value x, xs.toArray, tys⟩, ty, pos, after, g⟩ Q N l (Hp w0 F m) (α := { x : α // φ x }) (fun x => (d, val x.1) :: l) (fun x => Hp w0 F (its x.1 ++ m)) :=
  o_call (val := fun x : { x : α // φ x } => val x.1) hok (entersF hf hb hx hu) (fun w hw => (Ct.calls (hc w hw)).mono fun _ _ ⟨x, he, hx, hi⟩ => ⟨⟨x, hx⟩, he, hw.call0 hi⟩)
theorem t_drawm {id : Nat} {r : List Oper} (is : List Nat) (t : Nat) (hd : distB is = true) (hp : pickI m is = some m') (hm : drawOk P r = true) (h : HD P r.toArray Q (Hp w0 F m') t N r.length (Array.replicate r.length false) l (Hp w0 F m)) : HT P (.region id r.toArray true) Q N l (Hp w0 F m) := by
  unfold HT HD at *
  intro a w s hw
  simp only [drawOk, Bool.and_eq_true, List.all_eq_true] at hm
  refine wpIn_mono (wpIn_region_any (Q := calm Q) hm.1 (any_in (by simpa using hm.2) calm_out N.r _ _ _ _ (wpAny_of_K (S := Hp w0 F m') (t := t) _ _ _ _ ?_))) (fun _ _ _ h => calm_le h)
  have := h (by simpa using headInv_start r.toArray t) a w.drew s hw.drew
  simpa using this
end Go.Eng

namespace Go.Eng
open Go.RowKit
set_option maxRecDepth 100000
section
variable {P : Program} {l : Slots} {H : World → Prop} {x y : Operand} {xt yt ty : TypeId}
abbrev w32 (a : BitVec 32) : Value := .int .u32 (a.toNat : Int)
theorem ofInt_w (a : BitVec 32) : BitVec.ofInt 32 (a.toNat : Int) = a := by rw [ofInt_nat, BitVec.ofNat_toNat, BitVec.setWidth_eq]
theorem wrap_w (n : Nat) : IntKind.u32.wrap (n : Int) = ((BitVec.ofNat 32 n).toNat : Int) := by rw [u32_wrap_nat, BitVec.toNat_ofNat]
theorem wrap_wi (a : BitVec 32) : IntKind.u32.wrap (a.toNat : Int) = (a.toNat : Int) := by rw [wrap_w, BitVec.ofNat_toNat, BitVec.setWidth_eq]
theorem v_xorW {a b : BitVec 32} (hx : evO l x = some (w32 a)) (hy : evO l y = some (w32 b)) : OV P (.binOp .xor xt x y yt) ty l H (w32 (a ^^^ b)) :=
  v_as (v_bin hx hy fun _ => rfl) (by
    show Value.int .u32 (IntKind.u32.wrap ((BitVec.ofInt 32 a.toNat ^^^ BitVec.ofInt 32 b.toNat).toNat)) = _
    rw [ofInt_w, ofInt_w, wrap_wi])
theorem v_andW {a b : BitVec 32} (hx : evO l x = some (w32 a)) (hy : evO l y = some (w32 b)) : OV P (.binOp .and xt x y yt) ty l H (w32 (a &&& b)) :=
  v_as (v_bin hx hy fun _ => rfl) (by
    show Value.int .u32 (IntKind.u32.wrap ((BitVec.ofInt 32 a.toNat &&& BitVec.ofInt 32 b.toNat).toNat)) = _
    rw [ofInt_w, ofInt_w, wrap_wi])
theorem v_orW {a b : BitVec 32} (hx : evO l x = some (w32 a)) (hy : evO l y = some (w32 b)) : OV P (.binOp .or xt x y yt) ty l H (w32 (a ||| b)) :=
  v_as (v_bin hx hy fun _ => rfl) (by
    show Value.int .u32 (IntKind.u32.wrap ((BitVec.ofInt 32 a.toNat ||| BitVec.ofInt 32 b.toNat).toNat)) = _
    rw [ofInt_w, ofInt_w, wrap_wi])
theorem wrap_wadd (a b : BitVec 32) : IntKind.u32.wrap ((a.toNat : Int) + (b.toNat : Int)) = ((a + b).toNat : Int) := by
  rw [← Int.natCast_add, u32_wrap_nat, BitVec.toNat_add]
theorem v_addW32 {a b : BitVec 32} (hx : evO l x = some (w32 a)) (hy : evO l y = some (w32 b)) : OV P (.binOp .add xt x y yt) ty l H (w32 (a + b)) :=
  v_as (v_bin hx hy fun _ => rfl) (by
    show Value.int .u32 (IntKind.u32.wrap ((a.toNat : Int) + (b.toNat : Int))) = _
    rw [wrap_wadd])
theorem v_notW {t : TypeId} {a : BitVec 32} (hx : evO l x = some (w32 a)) : OV P (.unOp .xor t x) ty l H (w32 (~~~a)) := ov fun _ _ _ w _ => by
  have e : (Op.unary .xor (.int .u32 a.toNat) : Sem Value).run P w = .ok (w32 (~~~a)) w := by
    show Result.ok (Value.int .u32 (IntKind.u32.wrap ((BitVec.ofInt 32 ((4294967295 : Nat) : Int) ^^^ BitVec.ofInt 32 (a.toNat : Int)).toNat))) w = _
    rw [ofInt_w, wrap_wi, show BitVec.ofInt 32 ((4294967295 : Nat) : Int) = BitVec.allOnes 32 from rfl, BitVec.allOnes_xor]
  simp only [execOp, ev_of hx, Sem.run_bind, e]; rfl
theorem shift_runU {op : BinOp} {k q : IntKind} (hop : op = .shl ∨ op = .shr) (n : Int) (s : Nat) (w : World) :
    (do eqGuard op xt x y (.int k n) (.int q s); binOp op xt (.int k n) (.int q s) : Sem Value).run P w = .ok (match op with | .shl => .int k (k.wrap (n * 2 ^ (min s k.bits))) | _ => .int k (n.fdiv (2 ^ (min s k.bits)))) w := by
  have h0 : ¬ ((s : Int) < 0) := by omega
  rcases hop with rfl | rfl
  · show ((binOp .shl xt (.int k n) (.int q s)).run P w) = _
    simp only [binOp, Op.shift, h0, if_false, Int.toNat_natCast]; rfl
  · show ((binOp .shr xt (.int k n) (.int q s)).run P w) = _
    simp only [binOp, Op.shift, h0, if_false, Int.toNat_natCast]; rfl
theorem v_shrW {a : BitVec 32} {q : IntKind} {s : Nat} (hx : evO l x = some (w32 a)) (hy : evO l y = some (.int q s)) (hs : s ≤ 32) : OV P (.binOp .shr xt x y yt) ty l H (w32 (a >>> s)) :=
  v_as (v_bin hx hy (shift_runU (.inr rfl) _ _)) (by
    have e : min s IntKind.u32.bits = s := by show min s 32 = s; omega
    have e2 : (2 : Int) ^ s = ((2 ^ s : Nat) : Int) := by simp
    have e3 : (a.toNat : Int).fdiv ((2 ^ s : Nat) : Int) = ((a >>> s).toNat : Int) := by
      rw [Int.fdiv_eq_ediv_of_nonneg _ (Int.natCast_nonneg _), BitVec.toNat_ushiftRight, Nat.shiftRight_eq_div_pow]; rfl
    simp only [e, e2, e3])
theorem v_shlW {a : BitVec 32} {q : IntKind} {s : Nat} (hx : evO l x = some (w32 a)) (hy : evO l y = some (.int q s)) (hs : s ≤ 32) : OV P (.binOp .shl xt x y yt) ty l H (w32 (a <<< s)) :=
  v_as (v_bin hx hy (shift_runU (.inl rfl) _ _)) (by
    have e : min s IntKind.u32.bits = s := by show min s 32 = s; omega
    have e2 : ((a.toNat : Int) * 2 ^ s) = ((a.toNat * 2 ^ s : Nat) : Int) := by simp
    have e3 : a.toNat * 2 ^ s % 4294967296 = (a <<< s).toNat := by rw [BitVec.toNat_shiftLeft, Nat.shiftLeft_eq]
    simp only [e, e2, u32_wrap_nat, e3])
theorem lit32 {b : Nat} (h : b < 4294967296) : (b : Int) = ((BitVec.ofNat 32 b).toNat : Int) := by rw [BitVec.toNat_ofNat, Nat.mod_eq_of_lt h]
theorem v_shrWC {a : BitVec 32} {q : IntKind} {s : Nat} (hx : evO l x = some (w32 a)) (hy : evO l y = some (.int q (@OfNat.ofNat Int s _))) (hs : @OfNat.ofNat Nat s _ ≤ 32) : OV P (.binOp .shr xt x y yt) ty l H (w32 (a >>> (@OfNat.ofNat Nat s _))) := v_shrW hx hy hs
theorem v_shlWC {a : BitVec 32} {q : IntKind} {s : Nat} (hx : evO l x = some (w32 a)) (hy : evO l y = some (.int q (@OfNat.ofNat Int s _))) (hs : @OfNat.ofNat Nat s _ ≤ 32) : OV P (.binOp .shl xt x y yt) ty l H (w32 (a <<< (@OfNat.ofNat Nat s _))) := v_shlW hx hy hs
theorem v_andWC {a : BitVec 32} {b : Nat} (hx : evO l x = some (w32 a)) (hy : evO l y = some (.int .u32 (@OfNat.ofNat Int b _))) (hb : @OfNat.ofNat Nat b _ < 4294967296) : OV P (.binOp .and xt x y yt) ty l H (w32 (a &&& BitVec.ofNat 32 (@OfNat.ofNat Nat b _))) := v_andW hx (hy.trans (congrArg (fun i => some (Value.int .u32 i)) (lit32 hb)))
end
end Go.Eng

namespace Go.Proofs.YtplhamichcnmmaaGreatDoor
set_option maxRecDepth 100000
def halves : List (BitVec 32) := [0x00000000#32, 0x105ec76f#32, 0x20bd8ede#32, 0x30e349b1#32, 0x417b1dbc#32, 0x5125dad3#32, 0x61c69362#32, 0x7198540d#32, 0x82f63b78#32, 0x92a8fc17#32, 0xa24bb5a6#32, 0xb21572c9#32, 0xc38d26c4#32, 0xd3d3e1ab#32, 0xe330a81a#32, 0xf36e6f75#32]
def half (m : BitVec 32) : BitVec 32 := halves[(m &&& 15#32).toNat]?.getD 0 ^^^ m >>> 4
def byte1 (n : BitVec 32) (c : UInt8) : BitVec 32 := half (half (n ^^^ BitVec.ofNat 32 c.toNat))
def crcF (s : List UInt8) : BitVec 32 := ~~~ (s.foldl byte1 (BitVec.allOnes 32))
end Go.Proofs.YtplhamichcnmmaaGreatDoor

namespace Go.Proofs.YtplhamichcnmmaaGreatDoor
set_option maxRecDepth 100000
/-! ### groups of 16 bits as a number -/
def val : List Nat → Nat
  | [] => 0
  | d :: l => d + 65536 * val l
end Go.Proofs.YtplhamichcnmmaaGreatDoor

namespace Go.Proofs.YtplhamichcnmmaaGreatDoor
set_option maxRecDepth 100000
abbrev W32 := BitVec 32
def rotr (x : W32) (n : Nat) : W32 := x >>> n ||| x <<< (32 - n)
def sg0 (x : W32) : W32 := rotr x 7 ^^^ rotr x 18 ^^^ x >>> 3
def sg1 (x : W32) : W32 := rotr x 17 ^^^ rotr x 19 ^^^ x >>> 10
structure V8 where
  a : W32
  b : W32
  c : W32
  d : W32
  e : W32
  f : W32
  g : W32
  h : W32
def V8.l (v : V8) : List W32 := [v.a, v.b, v.c, v.d, v.e, v.f, v.g, v.h]
def V8.add (v w : V8) : V8 := ⟨v.a + w.a, v.b + w.b, v.c + w.c, v.d + w.d, v.e + w.e, v.f + w.f, v.g + w.g, v.h + w.h⟩
def sched (m : Nat → W32) (i : Nat) : W32 :=
  if h : i < 16 then m i else sched m (i - 16) + sg0 (sched m (i - 15)) + sched m (i - 7) + sg1 (sched m (i - 2))
termination_by i
decreasing_by all_goals omega
/-! ### the ring of the program -/
def ringIx (n j : Nat) : Nat := max n 16 - 16 + (j + 15 * max n 16) % 16
def ring (m : Nat → W32) (n : Nat) : List W32 := (List.range 16).map fun j => sched m (ringIx n j)
end Go.Proofs.YtplhamichcnmmaaGreatDoor

namespace Go.Proofs.YtplhamichcnmmaaGreatDoor
set_option maxRecDepth 100000
def beN : Nat → Nat → List UInt8
  | 0, _ => []
  | w + 1, n => beN w (n / 256) ++ [UInt8.ofNat n]
theorem beN_length : ∀ (w n : Nat), (beN w n).length = w
  | 0, _ => rfl
  | w + 1, n => by rw [beN, List.length_append, beN_length w]; rfl
def beV (l : List UInt8) : Nat := l.foldl (fun n c => n * 256 + c.toNat) 0
theorem beV_snoc (l : List UInt8) (c : UInt8) : beV (l ++ [c]) = beV l * 256 + c.toNat := by
  rw [beV, beV, List.foldl_append]; rfl
theorem beV_beN : ∀ (w n : Nat), n < 256 ^ w → beV (beN w n) = n
  | 0, n, h => by simp at h; subst h; rfl
  | w + 1, n, h => by
    rw [beN, beV_snoc, beV_beN w (n / 256) (by rw [Nat.pow_succ] at h; omega)]
    have : (UInt8.ofNat n).toNat = n % 256 := by simp
    rw [this]
    omega
theorem beV_aux : ∀ (l : List UInt8) (n k : Nat), n < 256 ^ k → l.foldl (fun n c => n * 256 + c.toNat) n < 256 ^ (k + l.length)
  | [], _, _, h => h
  | c :: l, n, k, h => by
    have hc := c.toNat_lt
    have := beV_aux l (n * 256 + c.toNat) (k + 1) (by rw [Nat.pow_succ]; omega)
    rw [List.foldl_cons, List.length_cons, show k + (l.length + 1) = k + 1 + l.length by omega]
    exact this
theorem beV_lt (l : List UInt8) : beV l < 256 ^ l.length := by
  have := beV_aux l 0 0 (by decide)
  rwa [Nat.zero_add] at this
end Go.Proofs.YtplhamichcnmmaaGreatDoor

namespace Go.Proofs.YtplhamichcnmmaaGreatDoor
set_option maxRecDepth 100000
abbrev Bys := List UInt8
abbrev Opn := Bys × Bool
def opT (n : Nat) (o : Opn) : Bys × Opn := if o.2 then ([], o) else if o.1.length < n then ([], (o.1, true)) else (o.1.take n, (o.1.drop n, false))
def opN (w : Nat) (o : Opn) : Nat × Opn := (beV (opT w o).1, (opT w o).2)
theorem opT_ok (a b : Bys) : opT a.length (a ++ b, false) = (a, (b, false)) := by
  unfold opT
  simp
theorem opN_ok {w n : Nat} (h : n < 256 ^ w) (b : Bys) : opN w (beN w n ++ b, false) = (n, (b, false)) := by
  have := opT_ok (beN w n) b
  rw [beN_length] at this
  rw [opN, this]
  simp only [beV_beN w n h]
theorem opT_bad (n : Nat) (r : Bys) : opT n (r, true) = ([], (r, true)) := by simp [opT]
theorem opT_len (n : Nat) (o : Opn) : (opT n o).1.length ≤ n := by
  unfold opT
  split
  · simp
  · split
    · simp
    · rw [List.length_take]; omega
end Go.Proofs.YtplhamichcnmmaaGreatDoor
