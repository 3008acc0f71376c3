/- strings.Builder: Grow of a fresh one, WriteString, String. -/
/- Short steps: an operation that tells a value, a test, a guard, each with its own search. Own work; no condition. -/
/- Keys are compared, and looked for: cmp.Less, slices.BinarySearch at strings; node.Find, Down. Own work; no condition. -/
import Derived.Test.YtkkfifhaobjicaaGreatDoorHb12
import Derived.Laws.Pointers
import Derived.Lib.Builder
import Derived.Lib.MakeNoZero
import Derived.Lib.UnsafeStr
import Derived.Lib.AppendStr
import Derived.Test.YtkkfifhaobjicaaGreatDoorHb04
import Derived.Test.YtkkfifhaobjicaaGreatDoorHb08
import Derived.Test.YtkkfifhaobjicaaGreatDoorProg
namespace Go.Eng
open Go.RowKit
open Go.Lib (strCells strCells_length run_append_room_string run_append_grow_string run_firstCells_string)
variable {P : Program} {Q : Exit → Act → World → Prop} {N : Fm} {l : zat} {H : World → Prop} {ops : Array Oper} {rest : List Oper} {w0 : World} {F : Nat → Prop} {m : List Item} {ty : TypeId} {pos : String} {after : Array Edge} {g : Option (Nat × Bool)} {d : Nat}
def qke (P : Program) (T : TypeId) : Option TypeId := match P.underlying T with | some (.pointer e) => some e | _ => none
theorem zhk {T e : TypeId} (h : qke P T = some e) : P.underlying T = some (.pointer e) ∧ P.underlying T = some (.pointer (P.pointee T)) := by
 unfold qke at h
 split at h
 ·rename_i hu; rw [hu]; cases h; exact ⟨rfl, by simp [Program.pointee, hu]⟩
 ·cases h
theorem qap {T U e : TypeId} {x y : Operand} {p : Option Addr} (hx : evO l x = some (.pointer p)) (hy : evO l y = some (.pointer none)) (hT : qke P T = some e) : OV P (.binOp .eql T x y U) ty l H (.bool p.isNone) := zf1 hx hy fun w => by
 show ((binOp .eql T (.pointer p) (.pointer none)).run P w) = _
 exact run_eql_pointer_nil w T p (zhk hT).2
theorem zzf {T U e : TypeId} {x y : Operand} {p : Option Addr} (hx : evO l x = some (.pointer p)) (hy : evO l y = some (.pointer none)) (hT : qke P T = some e) : OV P (.binOp .neq T x y U) ty l H (.bool (!p.isNone)) := zf1 hx hy fun w => by
 show ((binOp .neq T (.pointer p) (.pointer none)).run P w) = _
 exact run_neq_pointer_nil w T p (zhk hT).2
theorem qaf {T U e : TypeId} {x y : Operand} {a : Addr} (hx : evO l x = some (.pointer (some a))) (hy : evO l y = some (.pointer (some a))) (hT : qke P T = some e) (hi : (P.info? e).isSome = true) : OV P (.binOp .neq T x y U) ty l H (.bool false) := zf1 hx hy fun w => by
 show ((binOp .neq T (.pointer (some a)) (.pointer (some a))).run P w) = _
 obtain ⟨j, hj⟩ := Option.isSome_iff_exists.1 hi
 exact Lib.run_neq_ptr_same w a (zhk hT).1 hj
def qif (P : Program) (T : TypeId) : Bool := match P.underlying T with | some .unsafePointer => true | _ => false
theorem zq3 {T : TypeId} (h : qif P T = true) : P.underlying T = some .unsafePointer := by
 unfold qif at h
 split at h
 ·assumption
 ·cases h
theorem qkg {T U e E : TypeId} {x : Operand} {b i : Nat} {cs : Array Value} {fz : Nat × Nat} (hx : evO l x = some (.pointer (some ⟨b, i, none⟩))) (hT : qke P T = some e) (hU : qif P U = true) (hs : Nat.ble 1 ((zc1 P e).getD 0) = true) (hm : pt b (.cells cs E fz) ∈ m) (hi : i < cs.size) : OV P (.convert T U x) ty l (Hp w0 F m) (.pointer (some ⟨b, i, none⟩)) := ov fun _ _ _ w hw => by
 have hb := hw.get hm
 cases hq : zc1 P e with
 | none => rw [hq] at hs; cases hs
 | some n =>
  obtain ⟨j, h1, h2⟩ := zbp hq
  rw [hq] at hs
  have hsh : w.shape? b = some (E, cs.size) := by simp [World.shape?, hb]
  simp only [execOp, zax hx, Sem.run_bind]
  rw [Lib.run_to_unsafe w ⟨b, i, none⟩ (zhk hT).1 (zq3 hU) h1 (by have := Nat.le_of_ble_eq_true hs; simp at this; omega) hsh hi]
  rfl
theorem qll {T U e E : TypeId} {x : Operand} {b i : Nat} {cs : Array Value} {fz : Nat × Nat} (hx : evO l x = some (.pointer (some ⟨b, i, none⟩))) (hT : qke P T = some e) (hU : qif P U = true) (hs : (P.info? e).isSome = true) (hm : pt b (.cells cs E fz) ∈ m) (hl : liesAt P P.depth E (cs.size / P.cellsOf E) i e 1 = true) : OV P (.convert U T x) ty l (Hp w0 F m) (.pointer (some ⟨b, i, none⟩)) := ov fun _ _ _ w hw => by
 have hb := hw.get hm
 obtain ⟨j, hj⟩ := Option.isSome_iff_exists.1 hs
 have hsh : w.shape? b = some (E, cs.size) := by simp [World.shape?, hb]
 simp only [execOp, zax hx, Sem.run_bind]
 rw [Lib.run_from_unsafe w ⟨b, i, none⟩ (zq3 hU) (zhk hT).1 hj hsh hl]
 rfl
def zaf (s : List UInt8) : List Value := s.map fun b => Value.int .u8 b.toNat
theorem zoe (s : ByteArray) : strCells s = zaf s.data.toList := by
 simp [strCells, zaf]
theorem qeg {t u ty' e : TypeId} {i : TypeInfo} (ht : P.underlying t = some (.slice e)) (hu : P.underlying u = some .string) (hi : P.info? e = some i) (hz : i.zero = some (.int .u8 0)) (hs1 : i.size = 1) (hby : i.bytes = 1)
  {w : World} {o : Option (Nat × Nat)} {n : Nat} {xs : List Value} (hown : (own e 1 o n xs).prop w) (s : ByteArray) (h63 : n + s.size ≤ 140737488355328) :
  ∃ o' w', (Builtin.append_ #[t, u] ty' #[slV o n, .string s]).run P w = .ok (slV o' (n + s.size)) w' ∧ Its (fun k => ∃ c, o = some (k, c)) w [own e 1 o' (n + s.size) (xs ++ strCells s)] w' := by
 have hrow := ztf hown
 have hxl : xs.length = n := by simpa using hrow.1
 have hlen : (xs ++ strCells s).length = (n + s.size) * 1 := by rw [List.length_append, hxl, strCells_length, Nat.mul_one]
 have hmx : n + s.size ≤ maxLen := by unfold maxLen; omega
 have grown : ∀ (old : Nat), old < n + s.size →
   Its (fun k => ∃ c, o = some (k, c)) w [own e 1 (some (w.heap.size, grownCap w (n + s.size) old e)) (n + s.size) (xs ++ strCells s)] (w.drew.alloc (.cells (xs.toArray ++ (strCells s).toArray ++ Builtin.zeroCells (Value.int .u8 0).cells (grownCap w (n + s.size) old e - (n + s.size))) e)) := by
  intro old ho
  have hge := grownCap_ge w (n + s.size) old e
  refine zj3 ⟨hlen, hge, grownCap_le_maxLen w (n + s.size) old e hmx, _, heap_alloc_new w.drew _, ?_, ?_⟩ (zj0 rfl rfl rfl (by simp) fun j hj _ => Below.heap_alloc w.drew _ j hj) (fun b c' h => .inl (by cases h; exact Nat.le_refl _))
  ·have hz1 : (Value.int IntKind.u8 0).cells.size = 1 := rfl
   simp only [Array.size_append, List.size_toArray, size_zeroCells, hz1, hxl, strCells_length]
   omega
  ·simp only [Array.toList_append, List.append_assoc]
   rw [← List.append_assoc, ← hlen]
   exact List.take_left
 match o, hown with
 | none, hown =>
  obtain rfl : n = 0 := hown.2
  obtain rfl : xs = [] := List.eq_nil_of_length_eq_zero hxl
  by_cases hm : s.size = 0
  ·have hn : strCells s = [] := List.eq_nil_of_length_eq_zero (by rw [strCells_length]; exact hm)
   refine ⟨none, w, ?_, ?_⟩
   ·have hf := run_firstCells_string (P := P) w 1 s
    rw [hm] at hf
    simp [Builtin.append_, run_underlying ht, run_underlying hu, sizeOf, typeInfo, hi, hs1, Builtin.lenOf, hm, hf, slV]
   ·rw [hn, hm]
    exact zj3 (o := none) hown (.refl _ _) (fun _ _ h => by cases h)
  ·have hr := run_append_nil_string (P := P) w t u ty' e i (.int .u8 0) ht hu hi hz s (by omega) (by omega) (by rw [hby]; omega)
   have hgr := grown 0 (by omega)
   simp only [Nat.zero_add, List.nil_append, Array.empty_append] at hgr ⊢
   have e1 : (s.data.map fun b => Value.int .u8 b.toNat) = (strCells s).toArray := by
    apply Array.ext'
    simp [strCells]
   rw [e1] at hr
   exact ⟨some (w.heap.size, grownCap w s.size 0 e), _, hr, hgr⟩
 | some (b, cap), hown =>
  obtain ⟨h2, h3, cur, h4, h5, h6⟩ := hown.2
  rw [Nat.mul_one] at h5 h6
  by_cases hroom : n + s.size ≤ cap
  ·have hr := run_append_room_string (P := P) w t u ty' e i ht hu hi hs1 b n cap cur h4 s hroom (by omega)
   refine ⟨some (b, cap), _, hr, zj3 ⟨hlen, hroom, h3, _, setRow_heap w b cur _ e _ h4, ?_, ?_⟩ (zj0 rfl rfl rfl (by simp) fun j _ hj => setRow_other w b j _ (fun e => hj ⟨cap, by rw [e]⟩)) (fun b' c' h => .inr ⟨c', h⟩)⟩
   ·simp only [List.size_toArray, List.length_append, List.length_take, List.length_drop, Array.length_toList, strCells_length]
    omega
   ·rw [h6, ← hlen]
    exact List.take_left
  ·have hr := run_append_grow_string (P := P) w t u ty' e i (.int .u8 0) ht hu hi hz ⟨b, 0, none⟩ n cap xs (by rw [hs1]; simpa using hxl) (hrow.cells (g := b) rfl) s (by omega) (by omega) (by rw [hby]; exact growslice_fits (by omega) (by omega))
   exact ⟨some (w.heap.size, grownCap w (n + s.size) cap e), _, hr, grown cap (by omega)⟩
def qh5 (P : Program) (e : TypeId) : Bool := match P.info? e with | some ⟨_, _, sz, bt, _, _, _, some (.int .u8 0), _, _⟩ => Nat.beq sz 1 && Nat.beq bt 1 | _ => false
theorem zri {e : TypeId} (h : qh5 P e = true) : ∃ i, P.info? e = some i ∧ i.zero = some (.int .u8 0) ∧ i.size = 1 ∧ i.bytes = 1 := by
 unfold qh5 at h
 split at h
 ·rename_i hi
  simp only [Bool.and_eq_true] at h
  exact ⟨_, hi, rfl, Nat.eq_of_beq_eq_true h.1, Nat.eq_of_beq_eq_true h.2⟩
 ·cases h
theorem zzd {T U T' e : TypeId} {x y : Operand} {o : Option (Nat × Nat)} {n : Nat} {xs : List Value} {s : ByteArray} (hok : zfj N l (.call ⟨.builtin .append, #[x, y], #[T, U]⟩) d = true) (hx : evO l x = some (slV o n)) (hy : evO l y = some (.string s))
  (hT : zka P T = some e) (hU : P.underlying U = some .string) (he : qh5 P e = true) (hn : n + s.size ≤ 140737488355328) :
  HO P ⟨some d, .call ⟨.builtin .append, #[x, y], #[T, U]⟩, T', pos, after, g⟩ Q N l (Hp w0 F (own e 1 o n xs :: m)) (α := Option (Nat × Nat)) (fun o' => (d, slV o' (n + s.size)) :: l) (fun o' => Hp w0 F (own e 1 o' (n + s.size) (xs ++ zaf s.data.toList) :: m)) :=
 zhr (val := fun o' => slV o' (n + s.size)) hok (fun w hw => by
  obtain ⟨i, h1, h2, h3, h4⟩ := zri he
  obtain ⟨o', w', hr, hits⟩ := qeg (P := P) (ty' := T') (zbm hT) hU h1 h2 h3 h4 (hw.item (own e 1 o n xs) (by simp)).1 s hn
  rw [zoe] at hits
  refine ⟨o', w', ?_, Hp.call (m := [own e 1 o n xs]) hw hits (fun k' _ hk => ⟨own e 1 o n xs, by simp, hk⟩)⟩
  simp only [execOp, resolve, invoke, builtin]
  simp [zax hx, zax hy, hr])
theorem qp0 {f : FuncId} {fn : Func} {t e : TypeId} {x : Operand} {tys : Array TypeId} {k : Int} {n : Nat} [h : NatOf k n] (hok : zfj N l (.call ⟨.value (.func f), #[x], tys⟩) d = true) (hf : P.funcs[f]? = some fn) (hname : (fn.name == "runtime.NumGoroutine") = false) (hb : fn.body.isNone = true) (hne : Extern.findNext fn = none)
  (he : Extern.find fn = some (Extern.BytealgMakeNoZero.makeNoZero fn.params fn.resultTypes)) (hr : fn.resultTypes = #[t]) (hT : zka P t = some e) (hx : evO l x = some (.int .i64 k)) (hn : n ≤ 281474976710656) :
  HO P ⟨some d, .call ⟨.value (.func f), #[x], tys⟩, ty, pos, after, g⟩ Q N l (Hp w0 F m) (α := { p : Nat × Array Value // n ≤ p.2.size ∧ p.2.size ≤ maxLen }) (fun p => (d, .slice (some ⟨p.1.1, 0, none⟩) n p.1.2.size) :: l) (fun p => Hp w0 F (pt p.1.1 (.cells p.1.2 e (0, 0)) :: m)) := by
 obtain rfl := h.eq
 exact zhr (val := fun p : { p : Nat × Array Value // n ≤ p.2.size ∧ p.2.size ≤ maxLen } => .slice (some ⟨p.1.1, 0, none⟩) n p.1.2.size) hok (fun w hw => by
  obtain ⟨cs, h1, h2, h3⟩ := Lib.run_makeNoZero (P := P) w fn.params t e (zbm hT) n hn
  refine ⟨⟨(w.heap.size, cs), h2, h3 (by unfold maxLen; omega)⟩, _, ?_, hw.drew.drew.alloc (.cells cs e)⟩
  have hcall : (callFunc f #[.int .i64 (n : Int)]).run P w = .ok (.value (.slice (some ⟨w.heap.size, 0, none⟩) n cs.size)) (w.drew.drew.alloc (.cells cs e)) := by
   rw [run_callFunc_extern hf hname hb hne he, hr, h1]; rfl
  simp only [execOp, resolve, Deferred.ofValue, ev]
  simp [zax hx, invoke, hcall])
theorem qp8 {T : Array TypeId} {x : Operand} {b c n : Nat} (hx : evO l x = some (.slice (some ⟨b, 0, none⟩) n c)) (hc : c ≠ 0) : OV P (.call ⟨.builtin .unsafeSliceData, #[x], T⟩) ty l H (.pointer (some ⟨b, 0, none⟩)) := ov fun _ _ _ w _ => by
 have h := Lib.run_unsafeSliceData_row (P := P) w T ty ⟨b, 0, none⟩ n c hc
 simp only [execOp, resolve, invoke, builtin]
 simp [zax hx, h]
theorem zum {w : World} {b k n : Nat} (h : k ≠ b) : (w.freeze ⟨b, 0, none⟩ n).heap[k]? = w.heap[k]? := by
 unfold World.freeze
 split
 ·rfl
 ·simp [Array.getElem?_modify, Ne.symm h]
theorem zw0 {w : World} {b n : Nat} : (w.freeze ⟨b, 0, none⟩ n).heap.size = w.heap.size := by
 unfold World.freeze
 split <;> simp
theorem zxb {w : World} {b n : Nat} : (w.freeze ⟨b, 0, none⟩ n).os = w.os ∧ (w.freeze ⟨b, 0, none⟩ n).tape = w.tape ∧ (w.freeze ⟨b, 0, none⟩ n).output = w.output := by
 unfold World.freeze
 split <;> exact ⟨rfl, rfl, rfl⟩
/-! ### ends of functions without results -/
theorem zk3 {n : Nat} {fn : Func} {α : Type} {val : α → Value} {φ : α → Prop} {its : α → List Item} (x : α) (hf : fn.results = #[]) (e : .tuple #[] = val x) (hφ : φ x) (hs : (its x).Sublist m) (hst : ∀ it ∈ its x, it.Stable none') : HX (bodyPost P fn (zkv w0 F val φ its)) .normal ⟨n, [], none⟩ l (Hp w0 F m) :=
 zze hf fun _ hw => ⟨x, by rw [e], hφ, hw.its hs hst⟩
theorem qah {x : Operand} {T : TypeId} {a : Option Addr} {n c : Nat} (hx : evO l x = some (.slice a n c)) (hT : (zka P T).isSome = true) : OV P (.call ⟨.builtin .cap, #[x], #[T]⟩) ty l H (.int .i64 c) := ov fun _ _ _ w _ => by
 obtain ⟨e, he⟩ := Option.isSome_iff_exists.1 hT
 simp [execOp, resolve, invoke, builtin, zax hx, Builtin.cap_, run_underlying (zbm he) w, goInt]
theorem qkx {id : Nat} {r : List Oper} {it : Item} (hm : zld P r = true) (h : HD P r.toArray Q (Hp w0 F m) r.length N r.length (Array.replicate r.length false) l (Hp w0 F (it :: m))) : HT P (.region id r.toArray true) Q N l (Hp w0 F (it :: m)) := by
 unfold HT HD at *
 intro a w s hw
 simp only [zld, Bool.and_eq_true, List.all_eq_true] at hm
 refine wpIn_mono (wpIn_region_any (Q := znl Q) hm.1 (qak (by simpa using hm.2) zt1 N.r _ _ _ _ (zjj (S := Hp w0 F m) (t := r.length) _ _ _ _ ?_))) (fun _ _ _ h => zsk h)
 have := h (by simpa using zh3 r.toArray r.length) a w.drew s hw.drew
 simpa using this
end Go.Eng
namespace Go.Eng
open Go.RowKit
variable {P : Program} {Q : Exit → Act → World → Prop} {N : Fm} {l : zat} {H S : World → Prop} {ops : Array Oper} {rest : List Oper} {ty : TypeId} {pos : String} {after : Array Edge} {g : Option (Nat × Bool)} {d t : Nat}
theorem qpv {P : Program} {l : zat} {H : World → Prop} {ty S T : TypeId} {x : Operand} {c : UInt8} (hx : evO l x = some (.int .u8 (c.toNat : Int))) (hS : (P.underlying S).isSome = true) (hT : qov P T = some .u32) : OV P (.convert S T x) ty l H (w32 (BitVec.ofNat 32 c.toNat)) :=
 zuw (qlv (n := c.toNat) hx hS hT (by have := c.toNat_lt; omega)) (by rw [show w32 (BitVec.ofNat 32 c.toNat) = .int .u32 ((BitVec.ofNat 32 c.toNat).toNat : Int) from rfl, BitVec.toNat_ofNat, Nat.mod_eq_of_lt (by have := c.toNat_lt; omega)])
theorem dAv {i : Nat} (E : List Nat) {n : Nat} {listed : Array Bool} {op : Op} {v : Value} (hp : qc0 ops.toList listed.toList E l 0 ops.toList = some i) (hi : nth ops.toList i = some ⟨some d, op, ty, pos, after, g⟩) (hok : okL ops N l g op d = true) (k : HD P ops Q S t N n (listed.setIfInBounds i true) ((d, v) :: l) H)
  (hb : zqj ops t listed i = true := by kernel_rfl) (hS : ∀ w, H w → S w := by intro w h; first | exact h | exact Hp.sub h (.cons _ (.refl _)) | exact Hp.sub h (.cons _ (.cons _ (.refl _))) | exact Hp.sub h (.cons _ (.cons _ (.cons _ (.refl _)))) | exact Hp.sub h (.cons _ (.cons _ (.cons _ (.cons _ (.refl _))))) | exact Hp.sub h (.cons _ (.cons _ (.cons _ (.cons _ (.cons _ (.refl _)))))) | exact Hp.sub h (.cons _ (.cons _ (.cons _ (.cons _ (.cons _ (.cons _ (.refl _))))))) | exact Hp.sub h (.cons_cons _ (.cons_cons _ (List.nil_sublist _))) | exact Hp.sub h (.cons _ (.cons_cons _ (.cons_cons _ (List.nil_sublist _))))) (hv : OV P op ty l S v := by first | exact zhd rfl | exact zez rfl | exact qd5 rfl rfl | exact zdy rfl rfl | exact zdi rfl rfl | exact zfu rfl rfl | exact zil rfl rfl | exact zey rfl rfl | exact qc5 rfl | exact zev rfl rfl (by repeat first | exact .head _ | apply List.Mem.tail) | exact zke rfl rfl (by repeat first | exact .head _ | apply List.Mem.tail) rfl | exact zc6 rfl rfl (by repeat first | exact .head _ | apply List.Mem.tail) rfl | exact zd3 rfl rfl (by repeat first | exact .head _ | apply List.Mem.tail) | exact zpf rfl rfl rfl | exact qik rfl rfl rfl | exact zk8 rfl rfl rfl rfl rfl | exact qcw rfl rfl | exact qpc rfl | exact qah rfl rfl | exact qap rfl rfl rfl | exact zzf rfl rfl rfl | exact qaf rfl rfl rfl rfl | ((first | refine qcl rfl rfl ?_ | refine zmj rfl rfl rfl ?_ | refine zpk rfl rfl rfl ?_ | refine qdl rfl rfl rfl ?_ | refine qep rfl rfl rfl ?_ | refine qe3 rfl rfl rfl ?_ | refine zoy rfl rfl rfl rfl ?_ | refine qfi rfl rfl rfl rfl ?_ | refine qdb rfl rfl rfl ?_ | refine qf3 rfl rfl rfl ?_ | refine qpf rfl rfl rfl rfl ?_ | refine qlv rfl rfl rfl ?_ | refine zzv rfl rfl rfl rfl rfl ?_ | refine qib rfl rfl rfl rfl rfl ?_); first | omega | assumption) | exact qc3 rfl rfl (by first | omega | assumption | (simp; done) | exact fun h => h (by assumption) | fail) | exact qf5 rfl rfl (by first | omega | assumption | (simp; done) | exact fun h => h (by assumption) | fail) | exact zgo rfl rfl rfl) : HD P ops Q S t N (n + 1) listed l H := d_w E hp hi hok hb hS hv k
theorem dno {i : Nat} (E : List Nat) {n : Nat} {listed : Array Bool} {op : Op} {g : Nat × Bool} (hp : qc0 ops.toList listed.toList E l 0 ops.toList = some i) (hi : nth ops.toList i = some ⟨some d, op, ty, pos, after, some g⟩) (hok : okP ops N l g d = true) (k : HD P ops Q S t N n (listed.setIfInBounds i true) ((d, undef) :: l) H)
  (hb : zqj ops t listed i = true := by kernel_rfl) (hS : ∀ w, H w → S w := by intro w h; first | exact h | exact Hp.sub h (.cons _ (.refl _)) | exact Hp.sub h (.cons _ (.cons _ (.refl _))) | exact Hp.sub h (.cons _ (.cons _ (.cons _ (.refl _)))) | exact Hp.sub h (.cons _ (.cons _ (.cons _ (.cons _ (.refl _))))) | exact Hp.sub h (.cons _ (.cons _ (.cons _ (.cons _ (.cons _ (.refl _)))))) | exact Hp.sub h (.cons _ (.cons _ (.cons _ (.cons _ (.cons _ (.cons _ (.refl _))))))) | exact Hp.sub h (.cons_cons _ (.cons_cons _ (List.nil_sublist _))) | exact Hp.sub h (.cons _ (.cons_cons _ (.cons_cons _ (List.nil_sublist _))))) : HD P ops Q S t N (n + 1) listed l H := qj8 E hp hi hok hb hS k
theorem dT {b : Bool} {p : Prop} [h : DeciN b p] {i n : Nat} {dst : Option Nat} {listed : Array Bool} {op : Op} {g : Nat × Bool} (E : List Nat) (h1 : pick ops listed E = some i) (hi : nth ops.toList i = some ⟨dst, op, ty, pos, after, some g⟩) (hd : (nth ops.toList g.1).bind (·.dst) = some d) (hg : get l d = some (.bool b)) (k : HD P ops Q S t N n listed ((d, .bool true) :: l) H) (hp : p := by first | omega | assumption | (simp; done) | exact fun h => h (by assumption) | fail) : HD P ops Q S t N n listed l H := d_T E h1 hi hd hg hp k
theorem dF {b : Bool} {p : Prop} [h : DeciN b p] {i n : Nat} {dst : Option Nat} {listed : Array Bool} {op : Op} {g : Nat × Bool} (E : List Nat) (h1 : pick ops listed E = some i) (hi : nth ops.toList i = some ⟨dst, op, ty, pos, after, some g⟩) (hd : (nth ops.toList g.1).bind (·.dst) = some d) (hg : get l d = some (.bool b)) (k : HD P ops Q S t N n listed ((d, .bool false) :: l) H) (hp : ¬ p := by first | omega | assumption | (simp; done) | exact fun h => h (by assumption) | fail) : HD P ops Q S t N n listed l H := d_F E h1 hi hd hg hp k
structure Kp (q : Prop) : Prop where h : q
theorem goA {p q : Prop} (k : q) (s : Kp q → p := by intro h; (repeat first | with_reducible (first | apply zv6 | apply zsq | apply zx0 | apply qmp | apply qe0 | apply qdh | apply zye | apply zm3 | apply zj5 | apply zmf | apply zkc | apply zg6 | apply zi3 | apply zj1 rfl) | (apply l_w rfl; focus (first | exact zhd rfl | exact zez rfl | exact qd5 rfl rfl | exact zdy rfl rfl | exact zdi rfl rfl | exact zfu rfl rfl | exact zil rfl rfl | exact zey rfl rfl | exact qc5 rfl | exact zev rfl rfl (by repeat first | exact .head _ | apply List.Mem.tail) | exact zke rfl rfl (by repeat first | exact .head _ | apply List.Mem.tail) rfl | exact zc6 rfl rfl (by repeat first | exact .head _ | apply List.Mem.tail) rfl | exact zd3 rfl rfl (by repeat first | exact .head _ | apply List.Mem.tail) | exact zpf rfl rfl rfl | exact qik rfl rfl rfl | exact zk8 rfl rfl rfl rfl rfl | exact qcw rfl rfl | exact qpc rfl | exact qah rfl rfl | exact qap rfl rfl rfl | exact zzf rfl rfl rfl | exact qaf rfl rfl rfl rfl | ((first | refine qcl rfl rfl ?_ | refine zmj rfl rfl rfl ?_ | refine zpk rfl rfl rfl ?_ | refine qdl rfl rfl rfl ?_ | refine qep rfl rfl rfl ?_ | refine qe3 rfl rfl rfl ?_ | refine zoy rfl rfl rfl rfl ?_ | refine qfi rfl rfl rfl rfl ?_ | refine qdb rfl rfl rfl ?_ | refine qf3 rfl rfl rfl ?_ | refine qpf rfl rfl rfl rfl ?_ | refine qlv rfl rfl rfl ?_ | refine zzv rfl rfl rfl rfl rfl ?_ | refine qib rfl rfl rfl rfl rfl ?_); first | omega | assumption) | exact qc3 rfl rfl (by first | omega | assumption | (simp; done) | exact fun h => h (by assumption) | fail) | exact qf5 rfl rfl (by first | omega | assumption | (simp; done) | exact fun h => h (by assumption) | fail) | exact zgo rfl rfl rfl)) | refine qpj rfl ?_ | refine t_T rfl rfl (by first | omega | assumption | (simp; done) | exact fun h => h (by assumption) | fail) ?_ | refine t_F rfl rfl (by first | omega | assumption | (simp; done) | exact fun h => h (by assumption) | fail) ?_ | refine l_T rfl rfl (by first | omega | assumption | (simp; done) | exact fun h => h (by assumption) | fail) ?_ | refine l_F rfl rfl (by first | omega | assumption | (simp; done) | exact fun h => h (by assumption) | fail) ?_); exact h.h) : p := s ⟨k⟩
theorem goW {p q : Prop} (k : q) (s : Kp q → p := by intro h; (repeat first | with_reducible (first | apply zv6 | apply zsq | apply zx0 | apply qmp | apply qe0 | apply qdh | apply zye | apply zm3 | apply zj5 | apply zmf | apply zkc | apply zg6 | apply zi3 | apply zj1 rfl) | (apply l_w rfl; focus (first | exact qnt rfl rfl | exact qk9 rfl rfl (by decide) | exact qju rfl rfl | exact qpt rfl rfl | exact qh3 rfl rfl | exact qno rfl | exact qk2 rfl rfl (by decide) | exact qky rfl rfl (by decide) | exact qjv rfl rfl (by omega) | exact qje rfl rfl (by omega) | exact qpv rfl rfl rfl | exact zhd rfl | exact zez rfl | exact qd5 rfl rfl | exact zdy rfl rfl | exact zdi rfl rfl | exact zfu rfl rfl | exact zil rfl rfl | exact zey rfl rfl | exact qc5 rfl | exact zev rfl rfl (by repeat first | exact .head _ | apply List.Mem.tail) | exact zke rfl rfl (by repeat first | exact .head _ | apply List.Mem.tail) rfl | exact zc6 rfl rfl (by repeat first | exact .head _ | apply List.Mem.tail) rfl | exact zd3 rfl rfl (by repeat first | exact .head _ | apply List.Mem.tail) | exact zpf rfl rfl rfl | exact qik rfl rfl rfl | exact zk8 rfl rfl rfl rfl rfl | exact qcw rfl rfl | exact qpc rfl | exact qah rfl rfl | exact qap rfl rfl rfl | exact zzf rfl rfl rfl | exact qaf rfl rfl rfl rfl | ((first | refine qcl rfl rfl ?_ | refine zmj rfl rfl rfl ?_ | refine zpk rfl rfl rfl ?_ | refine qdl rfl rfl rfl ?_ | refine qep rfl rfl rfl ?_ | refine qe3 rfl rfl rfl ?_ | refine zoy rfl rfl rfl rfl ?_ | refine qfi rfl rfl rfl rfl ?_ | refine qdb rfl rfl rfl ?_ | refine qf3 rfl rfl rfl ?_ | refine qpf rfl rfl rfl rfl ?_ | refine qlv rfl rfl rfl ?_ | refine zzv rfl rfl rfl rfl rfl ?_ | refine qib rfl rfl rfl rfl rfl ?_); first | omega | assumption) | exact qc3 rfl rfl (by first | omega | assumption | (simp; done) | exact fun h => h (by assumption) | fail) | exact qf5 rfl rfl (by first | omega | assumption | (simp; done) | exact fun h => h (by assumption) | fail) | exact zgo rfl rfl rfl)) | refine qpj rfl ?_ | refine t_T rfl rfl (by first | omega | assumption | (simp; done) | exact fun h => h (by assumption) | fail) ?_ | refine t_F rfl rfl (by first | omega | assumption | (simp; done) | exact fun h => h (by assumption) | fail) ?_ | refine l_T rfl rfl (by first | omega | assumption | (simp; done) | exact fun h => h (by assumption) | fail) ?_ | refine l_F rfl rfl (by first | omega | assumption | (simp; done) | exact fun h => h (by assumption) | fail) ?_); exact h.h) : p := s ⟨k⟩
theorem goE {p q : Prop} (k : q) (s : Kp q → p := by intro h; (repeat first | (apply d_w [] rfl rfl rfl (by kernel_rfl) (fun _ h => by first | exact h | exact Hp.sub h (.cons _ (.refl _)) | exact Hp.sub h (.cons _ (.cons _ (.refl _))) | exact Hp.sub h (.cons _ (.cons _ (.cons _ (.refl _)))) | exact Hp.sub h (.cons _ (.cons _ (.cons _ (.cons _ (.refl _))))) | exact Hp.sub h (.cons _ (.cons _ (.cons _ (.cons _ (.cons _ (.refl _)))))) | exact Hp.sub h (.cons _ (.cons _ (.cons _ (.cons _ (.cons _ (.cons _ (.refl _))))))) | exact Hp.sub h (.cons_cons _ (.cons_cons _ (List.nil_sublist _))) | exact Hp.sub h (.cons _ (.cons_cons _ (.cons_cons _ (List.nil_sublist _))))); focus (first | exact zhd rfl | exact zez rfl | exact qd5 rfl rfl | exact zdy rfl rfl | exact zdi rfl rfl | exact zfu rfl rfl | exact zil rfl rfl | exact zey rfl rfl | exact qc5 rfl | exact zev rfl rfl (by repeat first | exact .head _ | apply List.Mem.tail) | exact zke rfl rfl (by repeat first | exact .head _ | apply List.Mem.tail) rfl | exact zc6 rfl rfl (by repeat first | exact .head _ | apply List.Mem.tail) rfl | exact zd3 rfl rfl (by repeat first | exact .head _ | apply List.Mem.tail) | exact zpf rfl rfl rfl | exact qik rfl rfl rfl | exact zk8 rfl rfl rfl rfl rfl | exact qcw rfl rfl | exact qpc rfl | exact qah rfl rfl | exact qap rfl rfl rfl | exact zzf rfl rfl rfl | exact qaf rfl rfl rfl rfl | ((first | refine qcl rfl rfl ?_ | refine zmj rfl rfl rfl ?_ | refine zpk rfl rfl rfl ?_ | refine qdl rfl rfl rfl ?_ | refine qep rfl rfl rfl ?_ | refine qe3 rfl rfl rfl ?_ | refine zoy rfl rfl rfl rfl ?_ | refine qfi rfl rfl rfl rfl ?_ | refine qdb rfl rfl rfl ?_ | refine qf3 rfl rfl rfl ?_ | refine qpf rfl rfl rfl rfl ?_ | refine qlv rfl rfl rfl ?_ | refine zzv rfl rfl rfl rfl rfl ?_ | refine qib rfl rfl rfl rfl rfl ?_); first | omega | assumption) | exact qc3 rfl rfl (by first | omega | assumption | (simp; done) | exact fun h => h (by assumption) | fail) | exact qf5 rfl rfl (by first | omega | assumption | (simp; done) | exact fun h => h (by assumption) | fail) | exact zgo rfl rfl rfl)) | refine qj8 [] rfl rfl rfl (by kernel_rfl) (fun _ h => by first | exact h | exact Hp.sub h (.cons _ (.refl _)) | exact Hp.sub h (.cons _ (.cons _ (.refl _))) | exact Hp.sub h (.cons _ (.cons _ (.cons _ (.refl _)))) | exact Hp.sub h (.cons _ (.cons _ (.cons _ (.cons _ (.refl _))))) | exact Hp.sub h (.cons _ (.cons _ (.cons _ (.cons _ (.cons _ (.refl _)))))) | exact Hp.sub h (.cons _ (.cons _ (.cons _ (.cons _ (.cons _ (.cons _ (.refl _))))))) | exact Hp.sub h (.cons_cons _ (.cons_cons _ (List.nil_sublist _))) | exact Hp.sub h (.cons _ (.cons_cons _ (.cons_cons _ (List.nil_sublist _))))) ?_ | refine d_T [] rfl rfl rfl rfl (by first | omega | assumption | (simp; done) | exact fun h => h (by assumption) | fail) ?_ | refine d_F [] rfl rfl rfl rfl (by first | omega | assumption | (simp; done) | exact fun h => h (by assumption) | fail) ?_); exact h.h) : p := s ⟨k⟩
theorem goH {w0 w : World} {F : Nat → Prop} {m m' : List Item} (h : Hp w0 F m w) (s : Hp w0 F m w → Hp w0 F m' w := by intro h; first | exact h | exact Hp.sub h (.cons _ (.refl _)) | exact Hp.sub h (.cons _ (.cons _ (.refl _))) | exact Hp.sub h (.cons _ (.cons _ (.cons _ (.refl _)))) | exact Hp.sub h (.cons _ (.cons _ (.cons _ (.cons _ (.refl _))))) | exact Hp.sub h (.cons _ (.cons _ (.cons _ (.cons _ (.cons _ (.refl _)))))) | exact Hp.sub h (.cons _ (.cons _ (.cons _ (.cons _ (.cons _ (.cons _ (.refl _))))))) | exact Hp.sub h (.cons_cons _ (.cons_cons _ (List.nil_sublist _))) | exact Hp.sub h (.cons _ (.cons_cons _ (.cons_cons _ (List.nil_sublist _))))) : Hp w0 F m' w := s h
end Go.Eng
namespace Go.Proofs.YtkkfifhaobjicaaGreatDoor
open Go.RowKit Go.Eng Go.Eng.Tr
set_option maxRecDepth 100000
set_option maxHeartbeats 40000000
def kB (k : K) : ByteArray := ⟨k.toArray⟩
def kV (k : K) : Value := .string (kB k)
theorem ze2 (k : K) : (kB k).toList = k := by rw [ByteArray.toList_eq]; simp [kB]
theorem qnf {a b : K} : kB a = kB b ↔ a = b := ⟨fun h => by rw [← ze2 a, h, ze2], fun h => by rw [h]⟩
theorem qoq (a b : K) : seq (kB a) (kB b) = decide (a = b) := by rw [Bool.eq_iff_iff, ztj, decide_eq_true_iff, qnf]
theorem zrn (a b : K) : Op.bytesLess a b = decide (kl a b) := by rw [Bool.eq_iff_iff, decide_eq_true_iff]; exact Iff.rfl
theorem qgt (a : ByteArray) (w : World) : Pu Tryz.prog 141 #[.string a] w (.bool false) := by
 refine zbl [_] Tryz.func141 rfl rfl ?_
 simp only [zaa]
 (repeat refine s_ ?_)
 exact zc2 rfl rfl (by simp [seq])
theorem qbb (a : ByteArray) (w : World) : Pu Tryz.prog 104 #[.string a] w (.bool false) := by
 refine zbl [_] Tryz.func104 rfl rfl ?_
 simp only [zaa]
 (repeat refine s_ ?_)
 exact zc2 rfl rfl (by simp [seq])
theorem qcj (a b : K) (w : World) : Pu Tryz.prog 103 #[kV a, kV b] w (.bool (decide (kl a b))) := by
 refine zbl [_, _] Tryz.func103 rfl rfl ?_
 unfold kV
 simp only [zaa, Nat.reduceAdd]
 (repeat refine s_ ?_)
 refine zae rfl (zag rfl (by kernel_rfl) rfl (fun w1 hw1 => qgt _ w1)) fun _ => ?_
 (repeat refine s_ ?_)
 exact zc2 rfl rfl (by rw [ze2, ze2, zrn])
theorem zu5 (a : Option Addr) (ns : List K) (c : Nat) (hs : Ks ns) (hL : ns.length ≤ 1000000) (k : K) (w : World) (hr : Rd w a (ns.map kV)) :
  Pu Tryz.prog 63 #[.slice a ns.length c, kV k] w (.tuple #[.int .i64 (lb ns k : Nat), .bool (fd ns k)]) := by
 refine zbl [_, _] Tryz.func63 rfl rfl ?_
 simp only [zaa, Nat.reduceAdd]
 (repeat refine s_ ?_)
 refine zct (α := Nat × Nat) (fun y => [(0, .slice a ns.length c), (1, kV k), (6, .int .i64 ns.length), (7, .int .i64 y.1), (8, .int .i64 y.2)])
  (fun y => y.1 ≤ y.2 ∧ y.2 ≤ ns.length ∧ (∀ j (h : j < ns.length), j < y.1 → kl ns[j] k) ∧ ∀ j (h : j < ns.length), y.2 ≤ j → ¬ kl ns[j] k) (fun _ => []) (fun y => y.2 - y.1) (0, ns.length) ⟨rfl, rfl, rfl, rfl, rfl, trivial⟩ ⟨Nat.zero_le _, Nat.le_refl _, fun k _ h => absurd h (Nat.not_lt_zero _), fun k h h' => by simp only at h'; omega⟩ (fun _ h => h) fun ⟨i, j⟩ ⟨h1, h2, h3, h4⟩ => ?_
 simp only at h1 h2 h3 h4 ⊢
 by_cases hij : i < j
 ·obtain ⟨b', off, rfl, hr'⟩ := hr.at_ (by intro h; have := congrArg List.length h; rw [List.length_map, List.length_nil] at this; omega)
  obtain ⟨q, hq⟩ : ∃ q, (i + j) / 2 ^ 1 = q := ⟨_, rfl⟩
  have hql : q < ns.length := by omega
  obtain ⟨kq, hkq⟩ : ∃ x, ns[q] = x := ⟨_, rfl⟩
  have hget : (ns.map kV)[q]? = some (kV kq) := by rw [List.getElem?_map, List.getElem?_eq_getElem hql, hkq]; rfl
  (repeat refine s_ ?_)
  refine l_w rfl (qlv rfl rfl rfl (by omega)) ?_
  (repeat refine s_ ?_)
  refine l_w rfl (qlv rfl rfl rfl (by omega)) ?_
  rw [hq]
  (repeat refine s_ ?_)
  refine l_w rfl (zaz rfl rfl (fun w' hw' => zbg hr' (fun h => h) hw' q (kV kq) hget)) ?_
  (repeat refine s_ ?_)
  refine zae rfl (zag rfl (by kernel_rfl) rfl (fun w1 hw1 => qcj _ _ w1)) fun _ => ?_
  (repeat refine s_ ?_)
  subst hkq
  refine qo3 rfl rfl (fun hl => ?_) (fun hl => ?_)
  ·(repeat refine s_ ?_)
   refine zay (q + 1, j) ⟨rfl, rfl, rfl, rfl, rfl, trivial⟩ ⟨by simp only; omega, h2, fun e he heq => ?_, h4⟩ (fun _ h => h) (by simp only; omega)
   simp only at heq
   by_cases e' : e = q
   ·subst e'; exact hl
   ·exact zb5 (List.pairwise_iff_getElem.1 hs e q he hql (by omega)) hl
  ·(repeat refine s_ ?_)
   refine zay (i, q) ⟨rfl, rfl, rfl, rfl, rfl, trivial⟩ ⟨by simp only; omega, by simp only; omega, h3, fun e he heq => ?_⟩ (fun _ h => h) (by simp only; omega)
   simp only at heq
   by_cases e' : e = q
   ·subst e'; exact hl
   ·exact fun h => hl (zb5 (List.pairwise_iff_getElem.1 hs q e hql he (by omega)) h)
 ·obtain rfl : i = j := by omega
  have hlb : lb ns k = i := qos (by omega) h3 (fun h => h4 i h (Nat.le_refl _))
  rw [hlb]
  by_cases hi : i < ns.length
  ·obtain ⟨b', off, rfl, hr'⟩ := hr.at_ (by intro h; have := congrArg List.length h; rw [List.length_map, List.length_nil] at this; omega)
   have hfd : fd ns k = decide (ns[i] = k) := by unfold fd; rw [hlb, List.getElem?_eq_getElem hi]; simp
   rw [hfd]
   obtain ⟨kq, hkq⟩ : ∃ x, ns[i] = x := ⟨_, rfl⟩
   have hget : (ns.map kV)[i]? = some (kV kq) := by rw [List.getElem?_map, List.getElem?_eq_getElem hi, hkq]; rfl
   rw [hkq]
   (repeat refine s_ ?_)
   refine l_w rfl (zaz rfl rfl (fun w' hw' => zbg hr' (fun h => h) hw' i (kV kq) hget)) ?_
   (repeat refine s_ ?_)
   unfold kV
   refine l_w rfl (qcw rfl rfl) ?_
   rw [qoq]
   by_cases he : kq = k
   ·rw [decide_eq_true he]
    (repeat refine s_ ?_)
    exact zg8 rfl rfl rfl rfl
   ·rw [decide_eq_false he]
    (repeat refine s_ ?_)
    refine l_w rfl (zaz rfl rfl (fun w' hw' => zbg hr' (fun h => h) hw' i (kV kq) hget)) ?_
    (repeat refine s_ ?_)
    refine zae rfl (zag rfl (by kernel_rfl) rfl (fun w1 hw1 => qbb _ w1)) fun _ => ?_
    (repeat refine s_ ?_)
    exact zg8 rfl rfl rfl rfl
  ·have hf : fd ns k = false := by
    unfold fd; rw [hlb, List.getElem?_eq_none (by omega)]; rfl
   rw [hf]
   (repeat refine s_ ?_)
   exact zg8 rfl rfl rfl rfl
end Go.Proofs.YtkkfifhaobjicaaGreatDoor
