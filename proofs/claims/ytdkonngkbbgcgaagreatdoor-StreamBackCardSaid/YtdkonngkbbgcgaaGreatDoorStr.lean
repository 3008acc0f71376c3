/- Strings and slices: slicing, '==', '+'; strings in memory. Own work; no condition. -/
import Derived.Test.YtdkonngkbbgcgaaGreatDoorMemb
import Derived.Test.YtdkonngkbbgcgaaGreatDoorMemc
import Derived.Test.YtdkonngkbbgcgaaGreatDoorAsk
import Derived.Laws.Strings2
import Derived.Laws.Strings3
namespace Go.Eng
open Go.RowKit
variable {P : Program} {Q : Exit → Act → World → Prop} {N : Fm} {l : Slots} {H : World → Prop} {ops : Array Oper} {rest : List Oper} {w0 : World} {F : Nat → Prop} {m : List Item} {ty : TypeId} {pos : String} {after : Array Edge} {g : Option (Nat × Bool)} {d : Nat}
/-! ### slicing of strings -/
theorem v_slstrF {T : TypeId} {x y : Operand} {s : ByteArray} {k : IntKind} {i : Nat} (hx : evO l x = some (.string s)) (hy : evO l y = some (.int k i)) (hT : P.underlying T = some .string) (hi : i ≤ s.size) : OV P (.slice T x (some y) none none) ty l H (.string (s.extract i s.size)) := ov fun _ _ _ w _ => by
  have h := run_slice_string_l (P := P) w T s hT k i (by omega) (by omega)
  simp only [execOp, ev_of hx, Option.map_some, Option.map_none, ev_of hy, Sem.run_bind, run_sliceAt_string w T _ _ _ _ hT, h, Int.toNat_natCast]
  rfl
theorem v_slstrT {T : TypeId} {x y : Operand} {s : ByteArray} {k : IntKind} {i : Nat} (hx : evO l x = some (.string s)) (hy : evO l y = some (.int k i)) (hT : P.underlying T = some .string) (hi : i ≤ s.size) : OV P (.slice T x none (some y) none) ty l H (.string (s.extract 0 i)) := ov fun _ _ _ w _ => by
  have h := run_slice_string_h (P := P) w T s hT k i (by omega) (by omega)
  simp only [execOp, ev_of hx, Option.map_some, Option.map_none, ev_of hy, Sem.run_bind, run_sliceAt_string w T _ _ _ _ hT, h, Int.toNat_natCast]
  rfl
theorem v_slstr {T : TypeId} {x y z : Operand} {s : ByteArray} {k k' : IntKind} {i j : Nat} (hx : evO l x = some (.string s)) (hy : evO l y = some (.int k i)) (hz : evO l z = some (.int k' j)) (hT : P.underlying T = some .string) (hi : i ≤ j) (hj : j ≤ s.size) : OV P (.slice T x (some y) (some z) none) ty l H (.string (s.extract i j)) := ov fun _ _ _ w _ => by
  have h := run_slice_string (P := P) w T s k k' i j hT (by omega) (by omega) (by omega)
  simp only [execOp, ev_of hx, Option.map_some, Option.map_none, ev_of hy, ev_of hz, Sem.run_bind, run_sliceAt_string w T _ _ _ _ hT, h, Int.toNat_natCast]
  rfl
theorem v_stratC {T : TypeId} {x y : Operand} {s : ByteArray} {k : IntKind} {i : Nat} (hx : evO l x = some (.string s)) (hy : evO l y = some (.int k (@OfNat.ofNat Int i _))) (hT : P.underlying T = some .string) (hi : (@OfNat.ofNat Nat i _) < s.size) : OV P (.index T x y) ty l H (.int .u8 (s[(@OfNat.ofNat Nat i _)].toNat : Nat)) := v_strat hx hy hT hi
theorem v_slstrFC {T : TypeId} {x y : Operand} {s : ByteArray} {k : IntKind} {i : Nat} (hx : evO l x = some (.string s)) (hy : evO l y = some (.int k (@OfNat.ofNat Int i _))) (hT : P.underlying T = some .string) (hi : (@OfNat.ofNat Nat i _) ≤ s.size) : OV P (.slice T x (some y) none none) ty l H (.string (s.extract (@OfNat.ofNat Nat i _) s.size)) := v_slstrF hx hy hT hi
theorem v_slstrTC {T : TypeId} {x y : Operand} {s : ByteArray} {k : IntKind} {i : Nat} (hx : evO l x = some (.string s)) (hy : evO l y = some (.int k (@OfNat.ofNat Int i _))) (hT : P.underlying T = some .string) (hi : (@OfNat.ofNat Nat i _) ≤ s.size) : OV P (.slice T x none (some y) none) ty l H (.string (s.extract 0 (@OfNat.ofNat Nat i _))) := v_slstrT hx hy hT hi
/-! ### '==' and '!=' of strings -/
theorem ba_ext {a b : ByteArray} (h : a.data.toList = b.data.toList) : a = b := by
  cases a; cases b; congr; exact Array.toList_inj.1 h
theorem bytes_beq (a b : ByteArray) : (a.toList == b.toList) = decide (a = b) := by
  rw [ByteArray.toList_eq, ByteArray.toList_eq, Bool.eq_iff_iff]
  simp only [beq_iff_eq, decide_eq_true_eq]
  exact ⟨ba_ext, fun h => by rw [h]⟩
/-- Two strings, are they one? -/
def seq (a b : ByteArray) : Bool := decide (a = b)
theorem seq_eq (a b : ByteArray) : decide (a = b) = seq a b := rfl
theorem seq_iff {a b : ByteArray} : seq a b = true ↔ a = b := by simp [seq]
theorem seq_list (a b : ByteArray) : seq a b = (a.data.toList == b.data.toList) := by
  rw [← seq_eq, ← bytes_beq, ByteArray.toList_eq, ByteArray.toList_eq]
theorem v_eqs {T U : TypeId} {x y : Operand} {a b : ByteArray} (hx : evO l x = some (.string a)) (hy : evO l y = some (.string b)) : OV P (.binOp .eql T x y U) ty l H (.bool (seq a b)) := by
  rw [← seq_eq, ← bytes_beq]
  exact v_bin hx hy fun _ => rfl
theorem v_nes {T U : TypeId} {x y : Operand} {a b : ByteArray} (hx : evO l x = some (.string a)) (hy : evO l y = some (.string b)) : OV P (.binOp .neq T x y U) ty l H (.bool (!seq a b)) := by
  rw [← seq_eq, ← bytes_beq]
  exact v_bin hx hy fun _ => rfl
theorem v_adds {T U : TypeId} {x y : Operand} {a b : ByteArray} (hx : evO l x = some (.string a)) (hy : evO l y = some (.string b)) (h : a.size + b.size < 9223372036854775808) : OV P (.binOp .add T x y U) ty l H (.string (a ++ b)) :=
  v_bin hx hy fun w => by
    have h' : ¬ (((a.size + b.size : Nat) : Int) > IntKind.i64.max) := by simp [IntKind.max, IntKind.bits, IntKind.signed]; omega
    show ((binOp .add T (.string a) (.string b)).run P w) = _
    simp only [binOp, Op.stringOp, if_neg h']
    rfl
/-! ### slicing of slices -/
/-- The address of what begins k cells on; of a slice with no room it stays. -/
def slAt (a : Option Addr) (room : Bool) (k : Nat) : Option Addr := if room then a else a.map (·.add k)
theorem v_slF {T e : TypeId} {x y : Operand} {a : Option Addr} {n c sz : Nat} {k : IntKind} {i : Nat} (hx : evO l x = some (.slice a n c)) (hy : evO l y = some (.int k i)) (hT : sliE P T = some e) (he : cellsT P e = some sz) (hi : i ≤ n) : OV P (.slice T x (some y) none none) ty l H (.slice (slAt a (decide (c = i)) (i * sz)) (n - i) (c - i)) := ov fun _ _ _ w _ => by
  have hu := sliE_spec hT
  have hu' : P.underlying T = some (.slice (P.elem T)) := by rw [hu]; simp [Program.elem, hu]
  have he' : P.elem T = e := by simp [Program.elem, hu]
  obtain ⟨q, hq, hqs⟩ := cellsT_spec he
  have h := run_slice_l (P := P) w T a n c hu' k i (by omega) (by omega)
  have hz : (sizeOf (P.elem T)).run P w = .ok sz w := by rw [he']; simp [sizeOf, typeInfo, hq, hqs]
  simp only [execOp, ev_of hx, Option.map_some, Option.map_none, ev_of hy, Sem.run_bind, run_sliceAt_slice w T _ _ _ _ hu', h, hz, Result.andThen_ok, Int.toNat_natCast, sliced, slAt]
  simp [Sem.run_pure]
theorem v_slFC {T e : TypeId} {x y : Operand} {a : Option Addr} {n c sz : Nat} {k : IntKind} {i : Nat} (hx : evO l x = some (.slice a n c)) (hy : evO l y = some (.int k (@OfNat.ofNat Int i _))) (hT : sliE P T = some e) (he : cellsT P e = some sz) (hi : (@OfNat.ofNat Nat i _) ≤ n) : OV P (.slice T x (some y) none none) ty l H (.slice (slAt a (decide (c = (@OfNat.ofNat Nat i _))) ((@OfNat.ofNat Nat i _) * sz)) (n - (@OfNat.ofNat Nat i _)) (c - (@OfNat.ofNat Nat i _))) := v_slF hx hy hT he hi
/-! ### texts as lists of bytes -/
theorem drop_extract (s : ByteArray) (i : Nat) : (s.extract i s.size).data.toList = s.data.toList.drop i := by
  simp [ByteArray.data_extract, Array.toList_extract, List.take_of_length_le]
theorem ba_size (a : ByteArray) : a.data.toList.length = a.size := by simp
attribute [irreducible] seq
end Go.Eng
