/- Short steps: an operation that tells a value, a test, a guard, each with its own search. Own work; no condition. -/
/- Slices of bytes: conversions, clones, what is read of them. -/
/- package disk: what a disk is in memory; its small functions. -/
import Derived.Test.YtplhamichcnmmaaGreatDoorHc07
import Derived.Laws.IdiomStrings
import Derived.Laws.Cover3
import Derived.Test.YtplhamichcnmmaaGreatDoorHc06
import Derived.Test.YtplhamichcnmmaaGreatDoorChecked
namespace Go.Eng
open Go.RowKit
variable {P : Program} {Q : Exit → Act → World → Prop} {N : Fm} {l : Slots} {H S : World → Prop} {ops : Array Oper} {rest : List Oper} {ty : TypeId} {pos : String} {after : Array Edge} {g : Option (Nat × Bool)} {d t : Nat}
theorem v_cvB {P : Program} {l : Slots} {H : World → Prop} {ty S T : TypeId} {x : Operand} {c : UInt8} (hx : evO l x = some (.int .u8 (c.toNat : Int))) (hS : (P.underlying S).isSome = true) (hT : intK P T = some .u32) : OV P (.convert S T x) ty l H (w32 (BitVec.ofNat 32 c.toNat)) :=
  v_as (v_cv (n := c.toNat) hx hS hT (by have := c.toNat_lt; omega)) (by rw [show w32 (BitVec.ofNat 32 c.toNat) = .int .u32 ((BitVec.ofNat 32 c.toNat).toNat : Int) from rfl, BitVec.toNat_ofNat, Nat.mod_eq_of_lt (by have := c.toNat_lt; omega)])
theorem dT {b : Bool} {p : Prop} [h : DeciN b p] {i n : Nat} {dst : Option Nat} {listed : Array Bool} {op : Op} {g : Nat × Bool} (E : List Nat) (h1 : pick ops listed E = some i) (hi : nth ops.toList i = some ⟨dst, op, ty, pos, after, some g⟩) (hd : (nth ops.toList g.1).bind (·.dst) = some d) (hg : get l d = some (.bool b)) (k : HD P ops Q S t N n listed ((d, .bool true) :: l) H) (hp : p := by first | omega | assumption | (simp; done) | exact fun h => h (by assumption) | fail) : HD P ops Q S t N n listed l H := d_T E h1 hi hd hg hp k
structure Kp (q : Prop) : Prop where h : q
theorem goA {p q : Prop} (k : q) (s : Kp q → p := by intro h; (repeat first | with_reducible (first | apply t_seq | apply t_region | apply t_block | apply t_ret | apply t_skip | apply t_exit | apply l_nil | apply x_then | apply x_pass_exit | apply x_pass_ret | apply x_block_ret | apply x_block_normal | apply x_block_here | apply x_block_out rfl) | (apply l_w rfl; focus (first | exact v_move rfl | exact v_assign rfl | exact v_bt rfl rfl | exact v_extract rfl rfl | exact v_field0 rfl rfl | exact v_field rfl rfl | exact v_lens rfl rfl | exact v_lenstr rfl rfl | exact v_nt rfl | exact v_load1p rfl rfl (by repeat first | exact .head _ | apply List.Mem.tail) | exact v_loadn rfl rfl (by repeat first | exact .head _ | apply List.Mem.tail) rfl | exact v_loadp rfl rfl (by repeat first | exact .head _ | apply List.Mem.tail) rfl | exact v_loada rfl rfl (by repeat first | exact .head _ | apply List.Mem.tail) | exact v_eqb rfl rfl rfl | exact v_slA rfl rfl rfl | exact v_builds rfl rfl rfl rfl rfl | exact v_eqs rfl rfl | exact v_nc rfl | exact v_caps rfl rfl | exact v_eqpn rfl rfl rfl | exact v_nepn rfl rfl rfl | exact v_neps rfl rfl rfl rfl | ((first | refine v_bn rfl rfl ?_ | refine v_is1 rfl rfl rfl ?_ | refine v_ia1 rfl rfl rfl ?_ | refine v_sa rfl rfl rfl ?_ | refine v_sF rfl rfl rfl ?_ | refine v_sT rfl rfl rfl ?_ | refine v_sFT rfl rfl rfl rfl ?_ | refine v_lF rfl rfl rfl rfl ?_ | refine v_is rfl rfl rfl ?_ | refine v_ia rfl rfl rfl ?_ | refine v_lT rfl rfl rfl rfl ?_ | refine v_cv rfl rfl rfl ?_ | refine v_slLH rfl rfl rfl rfl rfl ?_ | refine v_sl3 rfl rfl rfl rfl rfl ?_); first | omega | assumption) | exact v_pT rfl rfl (by first | omega | assumption | (simp; done) | exact fun h => h (by assumption) | fail) | exact v_pF rfl rfl (by first | omega | assumption | (simp; done) | exact fun h => h (by assumption) | fail) | exact v_pickB rfl rfl rfl)) | refine l_no rfl ?_ | refine t_T rfl rfl (by first | omega | assumption | (simp; done) | exact fun h => h (by assumption) | fail) ?_ | refine t_F rfl rfl (by first | omega | assumption | (simp; done) | exact fun h => h (by assumption) | fail) ?_ | refine l_T rfl rfl (by first | omega | assumption | (simp; done) | exact fun h => h (by assumption) | fail) ?_ | refine l_F rfl rfl (by first | omega | assumption | (simp; done) | exact fun h => h (by assumption) | fail) ?_); exact h.h) : p := s ⟨k⟩
theorem goW {p q : Prop} (k : q) (s : Kp q → p := by intro h; (repeat first | with_reducible (first | apply t_seq | apply t_region | apply t_block | apply t_ret | apply t_skip | apply t_exit | apply l_nil | apply x_then | apply x_pass_exit | apply x_pass_ret | apply x_block_ret | apply x_block_normal | apply x_block_here | apply x_block_out rfl) | (apply l_w rfl; focus (first | exact v_xorW rfl rfl | exact v_andWC rfl rfl (by decide) | exact v_andW rfl rfl | exact v_orW rfl rfl | exact v_addW32 rfl rfl | exact v_notW rfl | exact v_shrWC rfl rfl (by decide) | exact v_shlWC rfl rfl (by decide) | exact v_shrW rfl rfl (by omega) | exact v_shlW rfl rfl (by omega) | exact v_cvB rfl rfl rfl | exact v_move rfl | exact v_assign rfl | exact v_bt rfl rfl | exact v_extract rfl rfl | exact v_field0 rfl rfl | exact v_field rfl rfl | exact v_lens rfl rfl | exact v_lenstr rfl rfl | exact v_nt rfl | exact v_load1p rfl rfl (by repeat first | exact .head _ | apply List.Mem.tail) | exact v_loadn rfl rfl (by repeat first | exact .head _ | apply List.Mem.tail) rfl | exact v_loadp rfl rfl (by repeat first | exact .head _ | apply List.Mem.tail) rfl | exact v_loada rfl rfl (by repeat first | exact .head _ | apply List.Mem.tail) | exact v_eqb rfl rfl rfl | exact v_slA rfl rfl rfl | exact v_builds rfl rfl rfl rfl rfl | exact v_eqs rfl rfl | exact v_nc rfl | exact v_caps rfl rfl | exact v_eqpn rfl rfl rfl | exact v_nepn rfl rfl rfl | exact v_neps rfl rfl rfl rfl | ((first | refine v_bn rfl rfl ?_ | refine v_is1 rfl rfl rfl ?_ | refine v_ia1 rfl rfl rfl ?_ | refine v_sa rfl rfl rfl ?_ | refine v_sF rfl rfl rfl ?_ | refine v_sT rfl rfl rfl ?_ | refine v_sFT rfl rfl rfl rfl ?_ | refine v_lF rfl rfl rfl rfl ?_ | refine v_is rfl rfl rfl ?_ | refine v_ia rfl rfl rfl ?_ | refine v_lT rfl rfl rfl rfl ?_ | refine v_cv rfl rfl rfl ?_ | refine v_slLH rfl rfl rfl rfl rfl ?_ | refine v_sl3 rfl rfl rfl rfl rfl ?_); first | omega | assumption) | exact v_pT rfl rfl (by first | omega | assumption | (simp; done) | exact fun h => h (by assumption) | fail) | exact v_pF rfl rfl (by first | omega | assumption | (simp; done) | exact fun h => h (by assumption) | fail) | exact v_pickB rfl rfl rfl)) | refine l_no rfl ?_ | refine t_T rfl rfl (by first | omega | assumption | (simp; done) | exact fun h => h (by assumption) | fail) ?_ | refine t_F rfl rfl (by first | omega | assumption | (simp; done) | exact fun h => h (by assumption) | fail) ?_ | refine l_T rfl rfl (by first | omega | assumption | (simp; done) | exact fun h => h (by assumption) | fail) ?_ | refine l_F rfl rfl (by first | omega | assumption | (simp; done) | exact fun h => h (by assumption) | fail) ?_); exact h.h) : p := s ⟨k⟩
theorem goE {p q : Prop} (k : q) (s : Kp q → p := by intro h; (repeat first | (apply d_w [] rfl rfl rfl (by kernel_rfl) (fun _ h => by first | exact h | exact Hp.sub h (.cons _ (.refl _)) | exact Hp.sub h (.cons _ (.cons _ (.refl _))) | exact Hp.sub h (.cons _ (.cons _ (.cons _ (.refl _)))) | exact Hp.sub h (.cons _ (.cons _ (.cons _ (.cons _ (.refl _))))) | exact Hp.sub h (.cons _ (.cons _ (.cons _ (.cons _ (.cons _ (.refl _)))))) | exact Hp.sub h (.cons _ (.cons _ (.cons _ (.cons _ (.cons _ (.cons _ (.refl _))))))) | exact Hp.sub h (.cons_cons _ (.cons_cons _ (List.nil_sublist _))) | exact Hp.sub h (.cons _ (.cons_cons _ (.cons_cons _ (List.nil_sublist _))))); focus (first | exact v_move rfl | exact v_assign rfl | exact v_bt rfl rfl | exact v_extract rfl rfl | exact v_field0 rfl rfl | exact v_field rfl rfl | exact v_lens rfl rfl | exact v_lenstr rfl rfl | exact v_nt rfl | exact v_load1p rfl rfl (by repeat first | exact .head _ | apply List.Mem.tail) | exact v_loadn rfl rfl (by repeat first | exact .head _ | apply List.Mem.tail) rfl | exact v_loadp rfl rfl (by repeat first | exact .head _ | apply List.Mem.tail) rfl | exact v_loada rfl rfl (by repeat first | exact .head _ | apply List.Mem.tail) | exact v_eqb rfl rfl rfl | exact v_slA rfl rfl rfl | exact v_builds rfl rfl rfl rfl rfl | exact v_eqs rfl rfl | exact v_nc rfl | exact v_caps rfl rfl | exact v_eqpn rfl rfl rfl | exact v_nepn rfl rfl rfl | exact v_neps rfl rfl rfl rfl | ((first | refine v_bn rfl rfl ?_ | refine v_is1 rfl rfl rfl ?_ | refine v_ia1 rfl rfl rfl ?_ | refine v_sa rfl rfl rfl ?_ | refine v_sF rfl rfl rfl ?_ | refine v_sT rfl rfl rfl ?_ | refine v_sFT rfl rfl rfl rfl ?_ | refine v_lF rfl rfl rfl rfl ?_ | refine v_is rfl rfl rfl ?_ | refine v_ia rfl rfl rfl ?_ | refine v_lT rfl rfl rfl rfl ?_ | refine v_cv rfl rfl rfl ?_ | refine v_slLH rfl rfl rfl rfl rfl ?_ | refine v_sl3 rfl rfl rfl rfl rfl ?_); first | omega | assumption) | exact v_pT rfl rfl (by first | omega | assumption | (simp; done) | exact fun h => h (by assumption) | fail) | exact v_pF rfl rfl (by first | omega | assumption | (simp; done) | exact fun h => h (by assumption) | fail) | exact v_pickB rfl rfl rfl)) | refine d_no [] rfl rfl rfl (by kernel_rfl) (fun _ h => by first | exact h | exact Hp.sub h (.cons _ (.refl _)) | exact Hp.sub h (.cons _ (.cons _ (.refl _))) | exact Hp.sub h (.cons _ (.cons _ (.cons _ (.refl _)))) | exact Hp.sub h (.cons _ (.cons _ (.cons _ (.cons _ (.refl _))))) | exact Hp.sub h (.cons _ (.cons _ (.cons _ (.cons _ (.cons _ (.refl _)))))) | exact Hp.sub h (.cons _ (.cons _ (.cons _ (.cons _ (.cons _ (.cons _ (.refl _))))))) | exact Hp.sub h (.cons_cons _ (.cons_cons _ (List.nil_sublist _))) | exact Hp.sub h (.cons _ (.cons_cons _ (.cons_cons _ (List.nil_sublist _))))) ?_ | refine d_T [] rfl rfl rfl rfl (by first | omega | assumption | (simp; done) | exact fun h => h (by assumption) | fail) ?_ | refine d_F [] rfl rfl rfl rfl (by first | omega | assumption | (simp; done) | exact fun h => h (by assumption) | fail) ?_); exact h.h) : p := s ⟨k⟩
theorem goH {w0 w : World} {F : Nat → Prop} {m m' : List Item} (h : Hp w0 F m w) (s : Hp w0 F m w → Hp w0 F m' w := by intro h; first | exact h | exact Hp.sub h (.cons _ (.refl _)) | exact Hp.sub h (.cons _ (.cons _ (.refl _))) | exact Hp.sub h (.cons _ (.cons _ (.cons _ (.refl _)))) | exact Hp.sub h (.cons _ (.cons _ (.cons _ (.cons _ (.refl _))))) | exact Hp.sub h (.cons _ (.cons _ (.cons _ (.cons _ (.cons _ (.refl _)))))) | exact Hp.sub h (.cons _ (.cons _ (.cons _ (.cons _ (.cons _ (.cons _ (.refl _))))))) | exact Hp.sub h (.cons_cons _ (.cons_cons _ (List.nil_sublist _))) | exact Hp.sub h (.cons _ (.cons_cons _ (.cons_cons _ (List.nil_sublist _))))) : Hp w0 F m' w := s h
end Go.Eng

namespace Go.Eng
open Go.RowKit
set_option maxRecDepth 100000
variable {P : Program} {Q : Exit → Act → World → Prop} {N : Fm} {l : Slots} {H : World → Prop} {ops : Array Oper} {rest : List Oper} {w0 : World} {F : Nat → Prop} {m m' : List Item} {ty : TypeId} {pos : String} {after : Array Edge} {g : Option (Nat × Bool)} {d : Nat}
/-! ### Reading -/
theorem Rd.take {w : World} {a : Option Addr} {xs : List Value} (h : Rd w a xs) (k : Nat) : Rd w a (xs.take k) := by
  rcases h with h | ⟨b, off, rfl, h⟩
  · exact .inl (by rw [h]; exact List.take_nil)
  · exact .inr ⟨b, off, rfl, rangeAt_take h⟩
theorem Rd.drop1 {w : World} {a : Option Addr} {xs : List Value} {c : Nat} (h : Rd w a xs) (i : Nat) (hc : xs.length ≤ c) : Rd w (slAt a (decide (c = i)) (i * 1)) (xs.drop i) := by
  by_cases hi : xs.length ≤ i
  · exact .inl (List.drop_of_length_le hi)
  · rcases h with h | ⟨b, off, rfl, h⟩
    · exact .inl (by rw [h]; simp)
    · rw [slAt_add (by omega), Nat.mul_one]
      exact .inr ⟨b, off + i, rfl, rangeAt_drop h⟩
theorem bytesV_length (s : List UInt8) : (bytesV s).length = s.length := by simp [bytesV]
theorem bytesV_take (s : List UInt8) (n : Nat) : bytesV (s.take n) = (bytesV s).take n := by simp [bytesV]
theorem bytesV_drop (s : List UInt8) (n : Nat) : bytesV (s.drop n) = (bytesV s).drop n := by simp [bytesV]
theorem bytesV_app (a b : List UInt8) : bytesV (a ++ b) = bytesV a ++ bytesV b := by simp [bytesV]
theorem bytesV_at {s : List UInt8} {i : Nat} (h : i < s.length) : (bytesV s)[i]? = some (.int .u8 (s[i].toNat : Int)) := by simp [bytesV, h]
theorem bytesV_one (s : List UInt8) : oneAll (bytesV s) = true := by
  induction s with
  | nil => rfl
  | cons c s ih =>
    show (Value.oneCell' _ && oneAll (bytesV s)) = true
    rw [ih]; rfl
theorem Rd.byte {w : World} {a : Option Addr} {s : List UInt8} (h : Rd w a (bytesV s)) {i : Nat} (hi : i < s.length) : ∃ b off, a = some ⟨b, off, none⟩ ∧ w.cell? ⟨b, off + i, none⟩ = some (.int .u8 (s[i].toNat : Int)) := by
  rcases h with h | ⟨b, off, rfl, h⟩
  · have := congrArg List.length h
    rw [bytesV_length] at this
    simp at this; subst this; simp at hi
  · exact ⟨b, off, rfl, h i _ (bytesV_at hi)⟩
theorem Here.fr {it : Item} {w w' : World} (h : Here it w) (hf : Fr none' w w') : Here it w' :=
  ⟨h.2.1 w w' (fun k hk => hk.elim (fun f => f.elim) fun hk => hf.block k (h.2.2 k hk) (fun h => h)) h.1, h.2.1, fun k hk => Nat.lt_of_lt_of_le (h.2.2 k hk) hf.size⟩
/-! ### Two ways that come together -/
theorem t_join {n : Nat} {ds : List Deferred} {r : Option Nat} {x y : Code} {α : Type} (L : α → Slots) (φ : α → Prop) (M : α → List Item)
    (h : HT P x (Exit.then (fun a w => ∃ z, φ z ∧ St ⟨n, ds, r⟩ (L z) a ∧ Hp w0 F (M z) w) Q) ⟨n, ds, r⟩ l H) (k : ∀ z, φ z → HT P y Q ⟨n, ds, r⟩ (L z) (Hp w0 F (M z))) : HT P x (Exit.then (WP P r y Q) Q) ⟨n, ds, r⟩ l H := by
  unfold HT at *
  refine fun a w s hw => WP.mono (fun e a' w' q => ?_) (h a w s hw)
  cases e with
  | normal => obtain ⟨z, h1, h2, h3⟩ := q; exact k z h1 a' w' h2 h3
  | _ => exact q
theorem x_join {α : Type} {L : α → Slots} {φ : α → Prop} {M : α → List Item} (z : α) (hl : Has l (L z)) (hφ : φ z) (hI : ∀ w, Hp w0 F m w → Hp w0 F (M z) w) : HX (Exit.then (fun a w => ∃ z, φ z ∧ St N (L z) a ∧ Hp w0 F (M z) w) Q) .normal N l (Hp w0 F m) := by
  unfold HX
  exact fun a w s hw => ⟨z, hφ, s.sub hl.sub, hI w hw⟩
theorem zerosB (n : Nat) : zerosL (.int .u8 0) n = bytesV (List.replicate n 0) := by
  apply List.ext_getElem?
  intro i
  simp only [zerosL, bytesV, List.getElem?_map]
  by_cases h : i < n
  · rw [List.getElem?_range h, List.getElem?_replicate, if_pos h]
    have : i % (Value.int .u8 0).cells.size = 0 := Nat.mod_one i
    simp only [Option.map_some, this]; rfl
  · rw [List.getElem?_eq_none (by simpa using Nat.not_lt.1 h), List.getElem?_eq_none (by simpa using Nat.not_lt.1 h)]; rfl
theorem bytesV_set (T : List UInt8) (i : Nat) (c : UInt8) : (bytesV T).toArray.setIfInBounds i (.int .u8 (c.toNat : Int)) = (bytesV (T.set i c)).toArray := by
  rw [List.setIfInBounds_toArray]
  simp [bytesV, List.map_set]
/-! ### Comparison with nil -/
theorem v_eqsn {T U e : TypeId} {x y : Operand} {a : Option Addr} {n c : Nat} (hx : evO l x = some (.slice a n c)) (hy : evO l y = some (.slice none 0 0)) (hT : sliE P T = some e) : OV P (.binOp .eql T x y U) ty l H (.bool a.isNone) := v_bin hx hy fun w => by
  show ((do pure (.bool (← Op.equal T (.slice a n c) (.slice none 0 0))) : Sem Value).run P w) = _
  rw [Sem.run_bind, run_equal_slice_nil w T e a n c (sliE_spec hT)]; rfl
/-! ### An empty literal -/
theorem o_build0 {T e : TypeId} {sz : Nat} (hok : okOp N l (.buildSlice T 0 #[]) d = true) (hT : sliE P T = some e) (hi : (P.info? e).isSome = true) :
    HO P ⟨some d, .buildSlice T 0 #[], ty, pos, after, g⟩ Q N l (Hp w0 F m) (α := { b : Nat // w0.heap.size ≤ b }) (fun c => (d, slV (some (c.1, 0)) 0) :: l) (fun c => Hp w0 F (own e sz (some (c.1, 0)) 0 [] :: m)) :=
  o_mem (val := fun c : { b : Nat // w0.heap.size ≤ b } => slV (some (c.1, 0)) 0) hok (fun w hw => by
    obtain ⟨i, h1⟩ := Option.isSome_iff_exists.1 hi
    refine ⟨⟨w.heap.size, hw.fr.size⟩, w.alloc (.cells #[] e), ?_, hw.newOwn ⟨by simp, Nat.le_refl _, Nat.zero_le _, #[], heap_alloc_new w _, by simp, by simp⟩⟩
    simp only [execOp, Instr.buildSlice, Sem.run_bind, run_underlying (sliE_spec hT) w, Result.andThen_ok, sizeOf, typeInfo]
    simp [newRow, h1, Instr.fill, slV]
    rw [show Array.map (fun _ : Nat => (default : Value)) (Array.range 0) = #[] from Array.eq_empty_of_size_eq_zero (by simp)])
/-! ### Texts and bytes -/
def u8E (P : Program) (T : TypeId) : Option TypeId := match P.underlying T with | some (.slice e) => (match P.underlying e with | some (.int .u8) => some e | _ => none) | _ => none
theorem u8E_spec {T e : TypeId} (h : u8E P T = some e) : P.underlying T = some (.slice e) ∧ P.underlying e = some (.int .u8) := by
  unfold u8E at h
  split at h
  · rename_i hu
    split at h
    · rename_i he; cases h; exact ⟨hu, he⟩
    · cases h
  · cases h
theorem bytesRow_cells (s : ByteArray) (c : Nat) (h : s.size ≤ c) : bytesRow s c = (bytesV s.data.toList ++ List.replicate (c - s.size) (Value.int .u8 0)).toArray := by
  apply Array.ext'
  simp [bytesRow, bytesV]
abbrev strRow (e : TypeId) (s : List UInt8) (b c : Nat) : Item := pt b (.cells (bytesV s ++ List.replicate (c - s.length) (Value.int .u8 0)).toArray e (c, c + 1))
theorem strRow_at {w : World} {e : TypeId} {s : List UInt8} {b c : Nat} (h : (strRow e s b c).prop w) : w.rangeAt b 0 (bytesV s) := fun j v hj => by
  refine rangeAt_pt h j v ?_
  rw [List.getElem?_append_left (List.getElem?_eq_some_iff.1 hj).1]; exact hj
theorem o_strb {S T e : TypeId} {x : Operand} {s : ByteArray} (hok : okOp N l (.convert S T x) d = true) (hx : evO l x = some (.string s)) (hS : P.underlying S = some .string) (hT : u8E P T = some e) :
    HO P ⟨some d, .convert S T x, ty, pos, after, g⟩ Q N l (Hp w0 F m) (α := { p : Nat × Nat // w0.heap.size ≤ p.1 ∧ s.size ≤ p.2 }) (fun p => (d, .slice (some ⟨p.1.1, 0, none⟩) s.size p.1.2) :: l) (fun p => Hp w0 F (strRow e s.data.toList p.1.1 p.1.2 :: m)) :=
  o_mem (val := fun p : { p : Nat × Nat // w0.heap.size ≤ p.1 ∧ s.size ≤ p.2 } => .slice (some ⟨p.1.1, 0, none⟩) s.size p.1.2) hok (fun w hw => by
    have hg := grownCap_ge w s.size 0 e
    refine ⟨⟨(w.heap.size, grownCap w s.size 0 e), hw.fr.size, hg⟩, _, by simp only [execOp, ev_of hx, Sem.run_bind, run_bytes_of_string (P := P) w S T e s hS (u8E_spec hT).1 (u8E_spec hT).2]; rfl, ?_⟩
    have hsz : (bytesRow s (grownCap w s.size 0 e)).size = grownCap w s.size 0 e := by simp [bytesRow]; omega
    rw [hsz, bytesRow_cells s _ hg]
    have h1 := (hw.drew).alloc (.cells (bytesV s.data.toList ++ List.replicate (grownCap w s.size 0 e - s.size) (Value.int .u8 0)).toArray e (grownCap w s.size 0 e, grownCap w s.size 0 e + 1))
    show Hp w0 F (pt w.heap.size (.cells (bytesV s.data.toList ++ List.replicate (grownCap w s.size 0 e - s.data.toList.length) (Value.int .u8 0)).toArray e (grownCap w s.size 0 e, grownCap w s.size 0 e + 1)) :: m) _
    rw [ba_size s]
    exact h1)
theorem v_bstr {S T e : TypeId} {x : Operand} {a : Option Addr} {n c : Nat} {bs : List UInt8} (hx : evO l x = some (.slice a n c)) (hn : n = bs.length) (hS : u8E P S = some e) (hd : P.underlying T = some .string)
    (hr : ∀ w, Hp w0 F m w → Rd w a (bytesV bs)) : OV P (.convert S T x) ty l (Hp w0 F m) (.string ⟨bs.toArray⟩) := ov fun _ _ _ w hw => by
  obtain ⟨hs, he⟩ := u8E_spec hS
  rcases hr w hw with h | ⟨b, off, rfl, h⟩
  · have hz : bs = [] := by cases bs with | nil => rfl | cons c r => simp [bytesV] at h
    subst hz
    subst hn
    cases a with
    | none => simp [execOp, ev_of hx, convert, Sem.run_bind, run_underlying hs w, run_underlying hd w, run_underlying he w, Conv.bytesToString]; rfl
    | some a =>
      simp only [execOp, ev_of hx, Sem.run_bind, run_convert_bytes_back (P := P) w S T e a c [] hs he hd (fun j hj => by simp at hj)]
      exact congrArg (fun r => (Result.ok r w).andThen _) rfl
  · subst hn
    simp only [execOp, ev_of hx, Sem.run_bind, run_convert_bytes_back (P := P) w S T e ⟨b, off, none⟩ c bs hs he hd (fun j hj => by rw [add_at]; exact h j _ (bytesV_at hj))]
    rfl
/-! ### Arrays as slices -/
theorem v_slarr {T e : TypeId} {x : Operand} {b i n sz : Nat} (hx : evO l x = some (.pointer (some ⟨b, i, none⟩))) (hT : P.underlying T = some (.array n e)) (he : cellsT P e = some sz) (hn : Nat.ble 1 n = true) : OV P (.slice T x none none none) ty l H (.slice (some ⟨b, i, none⟩) n n) := ov fun _ _ _ w _ => by
  obtain ⟨q, h1, h2⟩ := cellsT_spec he
  have hn' := Nat.le_of_ble_eq_true hn
  have hne : ¬ n = 0 := by omega
  simp [execOp, ev_of hx, Instr.sliceAt, Instr.sureAddr, run_underlying hT w, Instr.sliceBounds, sizeOf, typeInfo, h1, hne, Addr.add]
theorem v_s2ap {T e : TypeId} {x : Operand} {a : Option Addr} {n k c : Nat} (hx : evO l x = some (.slice a k c)) (hT : P.underlying T = some (.array n e)) (hn : n ≤ k) : OV P (.sliceToArrayPointer T x) ty l H (.pointer a) := ov fun _ _ _ w _ => by
  have : ¬ k < n := by omega
  simp [execOp, ev_of hx, Instr.arrayAt, run_underlying hT w, this]
theorem slV_cells (o : Option (Nat × Nat)) (n : Nat) : (slV o n).cells = #[slV o n] := by cases o <;> rfl
theorem slV_one (o : Option (Nat × Nat)) (n : Nat) : (slV o n).oneCell' = true := by cases o <;> rfl
/-! ### Numbers -/
theorem v_subI {x y : Operand} {T U : TypeId} {a b : Int} (hx : evO l x = some (.int .i64 a)) (hy : evO l y = some (.int .i64 b)) (h : -9223372036854775808 ≤ a - b ∧ a - b < 9223372036854775808) : OV P (.binOp .sub T x y U) ty l H (.int .i64 (a - b)) := v_bin hx hy fun w => val_int w (i64_in _ h.1 h.2)
theorem v_max {T : Array TypeId} {x y : Operand} {k k' : IntKind} {a b : Int} {i j : Nat} [h : NatOf a i] [h' : NatOf b j] (hx : evO l x = some (.int k a)) (hy : evO l y = some (.int k' b)) : OV P (.call ⟨.builtin .max, #[x, y], T⟩) ty l H (.int k (max i j : Nat)) := ov fun _ _ _ w _ => by
  obtain rfl := h.eq; obtain rfl := h'.eq
  simp only [execOp, resolve, invoke, builtin]
  simp [ev_of hx, ev_of hy, run_max_int2]
  split <;> omega
theorem v_cvM {S T : TypeId} {x : Operand} {k k' : IntKind} {a : Int} {n L q : Nat} [h : NatOf a n] [hL : Uns k' L q] (hx : evO l x = some (.int k a)) (hS : (P.underlying S).isSome = true) (hT : intK P T = some k') : OV P (.convert S T x) ty l H (.int k' ((n % L : Nat) : Int)) := ov fun _ _ _ w _ => by
  obtain rfl := h.eq
  obtain ⟨u, hu⟩ := Option.isSome_iff_exists.1 hS
  simp only [execOp, ev_of hx, convert, Sem.run_bind, run_underlying hu w, run_underlying (intK_spec hT) w, Result.andThen_ok, Conv.intToInt, Sem.run_pure, hL.wrap n]
theorem shl_or (a : Nat) (c : Nat) (h : a * 256 + 255 < 18446744073709551616) (hc : c < 256) : (a * 2 ^ 8 % 18446744073709551616) ||| c = a * 256 + c := by
  rw [Nat.mod_eq_of_lt (by omega)]
  have := Nat.shiftLeft_add_eq_or_of_lt (i := 8) (b := c) (by omega) a
  rw [Nat.shiftLeft_eq] at this
  rw [← this]
theorem hp_nil1 {w : World} (e : TypeId) (sz : Nat) (h : Hp w0 F m w) : Hp w0 F (own e sz none 0 [] :: m) w := Hp.call0 (L := [own _ sz none 0 []]) h ⟨.refl _ _, fun it hm => by
  obtain rfl : it = own e sz none 0 [] := by simpa using hm
  exact ⟨⟨by simp, rfl⟩, own_stable _ _ _ _ _ _, fun k ⟨c, hk⟩ => nomatch hk⟩, .cons (fun _ h => nomatch h) .nil⟩
end Go.Eng

namespace Go.Eng
open Go.RowKit
variable {P : Program} {Q : Exit → Act → World → Prop} {N : Fm} {l : Slots} {ops : Array Oper} {rest : List Oper} {w0 : World} {F : Nat → Prop} {m : List Item}
theorem Hp.close1 {w : World} {L : List Item} (hs : ∀ it ∈ L, it.Stable none') (h : Hp w0 F (L ++ m) w) : Hp w0 F (bundle L :: m) w := by
  refine ⟨h.fr, fun it hm => ?_, List.pairwise_cons.2 ⟨fun y hy k ⟨x, hx, hkx⟩ hky => (List.pairwise_append.1 h.apart).2.2 x hx y hy k hkx hky, (List.pairwise_append.1 h.apart).2.1⟩⟩
  rcases List.mem_cons.1 hm with rfl | hm
  · refine ⟨⟨fun it hm => ?_, (List.pairwise_append.1 h.apart).1⟩, (bundle_stable L).ro _, fun k ⟨it, hm, hk⟩ => (h.item it (List.mem_append_left _ hm)).2.2 k hk⟩
    have hi := h.item it (List.mem_append_left _ hm)
    exact ⟨hi.1, hs it hm, fun k hk => (hi.2.2 k hk).1⟩
  · exact h.item it (List.mem_append_right _ hm)
theorem okP1 {n sz : Nat} {cs : Array Value} (h : cs.size = sz) (h2 : sz ≤ n) : okPartsB n [(0, sz, .agg cs)] = true := by
  simp [okPartsB, Value.cells, h, h2]
theorem bld1 {zs cs : List Value} {k : Nat} (h : zs.length = cs.length) : buildL zs [(0, k, .agg cs.toArray)] = cs := by
  show over zs 0 cs = cs
  unfold over
  rw [Nat.zero_add, ← h, List.drop_length, List.take_zero]
  simp
theorem Here.of {it : Item} {w : World} (h : it.In w0 F w) (hs : it.Stable none') : Here it w := ⟨h.1, hs, fun k hk => (h.2.2 k hk).1⟩
theorem Here.keep {it : Item} {w0 w : World} {m : List Item} (h : Here it w0) (hw : Hp w0 none' m w) : Here it w := Here.fr h hw.fr
end Go.Eng
namespace Go.Proofs.YtplhamichcnmmaaGreatDoor
open Go.RowKit Go.Eng
set_option maxRecDepth 100000
set_option maxHeartbeats 40000000
theorem bal (s : Bys) : (⟨s.toArray⟩ : ByteArray).size = s.length := by simp [ByteArray.size]
structure Dsk where
  on : List Bys
  wait : List (Bys × Nat)
  left : Option Nat
  keep : Bys
  dead : Bool
structure Dk where
  b : Nat
  onB : Nat
  w : Option (Nat × Nat)
  acts : Nat
  D : Dsk
def secsV (l : List Bys) : List Value := l.flatMap bytesV
def wrV (p : Bys × Nat) : List Value := bytesV p.1 ++ [.int .i64 (p.2 : Int)]
def leftI : Option Nat → Int
  | none => -1
  | some n => (n : Int)
abbrev dkCells (d : Dk) : List Value := [.int .i64 (leftI d.D.left), .string ⟨d.D.keep.toArray⟩, .slice (some ⟨d.onB, 0, none⟩) d.D.on.length d.D.on.length, slV d.w d.D.wait.length, .bool d.D.dead, .int .u64 (d.acts : Nat)]
def dkL (d : Dk) : List Eng.Item := [pt d.b (.cells (dkCells d).toArray 100 (0, 0)), pt d.onB (.cells (secsV d.D.on).toArray 150 (0, 0)), own 152 513 d.w d.D.wait.length (rowsV wrV d.D.wait)]
def dkI (d : Dk) : Eng.Item := bundle (dkL d)
theorem dkL_stable (d : Dk) : ∀ it ∈ dkL d, it.Stable none' := by simp [dkL, pt_stable, own_stable]
structure Dsk.Ok (D : Dsk) : Prop where
  size : ∀ s ∈ D.on, s.length = 512
  wsize : ∀ p ∈ D.wait, p.1.length = 512 ∧ p.2 < D.on.length
  many : D.on.length ≤ 4096
  left : ∀ n, D.left = some n → n ≤ 9223372036854775807
theorem unless_calls (is : Bool) (e : Nat) (w : World) : Pu Tryz.prog 80 #[.bool is, .int .i64 e] w (.int .i64 (if is then 0 else e : Nat)) := by
  refine pu_of [_, _] Tryz.func80 rfl rfl ?_
  simp only [argSlots, Nat.reduceAdd]
  cases is with
  | true =>
    rw [if_pos rfl]
    refine goA ?_
    exact x_pu rfl rfl rfl
  | false =>
    rw [if_neg (by decide)]
    refine goA ?_
    exact x_pu rfl rfl rfl
def firstE (l : List Nat) : Nat := (l.find? fun e => decide (e ≠ 0)).getD 0
def errsV (l : List Nat) : List Value := l.map fun e : Nat => Value.int .i64 (e : Int)
theorem first_calls (L : List Nat) (a : Option Addr) (c : Nat) (hn : L.length ≤ 1000) (w : World) (hr : Rd w a (errsV L)) : Pu Tryz.prog 78 #[.slice a L.length c] w (.int .i64 (firstE L : Nat)) := by
  refine pu_of [_] Tryz.func78 rfl rfl ?_
  simp only [argSlots]
  refine goA ?_
  refine t_for (α := Nat) (fun i => [(5, .slice a L.length c), (6, .int .i64 L.length), (7, .int .i64 i)]) (fun i => i ≤ L.length ∧ ∀ e ∈ L.take i, e = 0) (fun _ => []) (fun i => L.length - i) 0 ⟨rfl, rfl, rfl, trivial⟩ ⟨Nat.zero_le _, fun _ h => nomatch h⟩ (fun w' hw' => hw') fun i ⟨hi, hz⟩ => ?_
  by_cases hi2 : i < L.length
  · have hlen : (errsV L).length = L.length := by simp [errsV]
    have hat : (errsV L)[i]? = some (.int .i64 (L[i] : Nat)) := by simp [errsV, hi2]
    have hsp : L = L.take i ++ (L[i] :: L.drop (i + 1)) := by rw [List.getElem_cons_drop, List.take_append_drop]
    have hup : L.take (i + 1) = L.take i ++ [L[i]] := List.take_succ_eq_append_getElem hi2
    have hfe : ∀ e, L[i] = e → e ≠ 0 → firstE L = e := fun e he h0 => by
      rw [firstE, hsp, List.find?_append, List.find?_eq_none.2 fun x hx => by simp [hz x hx], he]
      simp [h0]
    obtain ⟨b, off, rfl, hcell⟩ := hr.at_ (fun e => by rw [e] at hlen; simp at hlen; omega)
    have hci := hcell i _ hat
    generalize L[i] = e at hci hup hfe
    refine goA ?_
    refine l_w rfl (v_load rfl rfl (fun w' hw' => hw'.old (fun h => h) hci)) ?_
    refine goA ?_
    by_cases h0 : e = 0
    · subst h0
      refine goA ?_
      exact x_round (i + 1) ⟨rfl, rfl, rfl, trivial⟩ ⟨hi2, fun x hx => by
        rw [hup] at hx
        rcases List.mem_append.1 hx with hx | hx
        · exact hz x hx
        · exact List.mem_singleton.1 hx⟩ (fun w' hw' => hw') (by omega)
    · rw [hfe e rfl h0]
      refine goA ?_
      exact x_pu rfl rfl rfl
  · obtain rfl : i = L.length := by omega
    rw [List.take_length] at hz
    have : firstE L = 0 := by rw [firstE, List.find?_eq_none.2 fun x hx => by simp [hz x hx]]; rfl
    rw [this]
    refine goA ?_
    exact x_pu rfl rfl rfl
theorem dk_at {d : Dk} {w : World} (h : Here (dkI d) w) (i : Nat) {v : Value} (hv : (dkCells d)[i]? = some v) : w.cell? ⟨d.b, i, none⟩ = some v :=
  cell_pt (h.1.1 (pt d.b (.cells (dkCells d).toArray 100 (0, 0))) (.head _)).1 (by rw [List.getElem?_toArray]; exact hv)
theorem there_calls (b : Nat) (w : World) : Pu Tryz.prog 79 #[.pointer (some ⟨b, 0, none⟩)] w (.int .i64 0) := by
  refine pu_of [_] Tryz.func79 rfl rfl ?_
  simp only [argSlots]
  refine goA ?_
  refine l_opg rfl (o_pure rfl (by kernel_rfl) rfl (fun w1 hw1 => unless_calls true 1 w1)) fun _ => ?_
  refine goA ?_
  exact x_pu rfl rfl rfl
theorem alive_calls (d : Dk) (w : World) (h : Here (dkI d) w) : Pu Tryz.prog 29 #[.pointer (some ⟨d.b, 0, none⟩)] w (.bool (!d.D.dead)) := by
  refine pu_of [_] Tryz.func29 rfl rfl ?_
  simp only [argSlots]
  refine goA ?_
  refine l_w rfl (v_load rfl rfl (fun w' hw' => dk_at (h.keep hw') 4 rfl)) ?_
  refine goA ?_
  exact x_pu rfl rfl rfl
theorem dlen_calls (d : Dk) (w : World) (h : Here (dkI d) w) : Pu Tryz.prog 48 #[.pointer (some ⟨d.b, 0, none⟩)] w (.int .i64 d.D.on.length) := by
  refine pu_of [_] Tryz.func48 rfl rfl ?_
  simp only [argSlots]
  refine goA ?_
  refine l_w rfl (v_load rfl rfl (fun w' hw' => dk_at (h.keep hw') 2 rfl)) ?_
  refine goA ?_
  exact x_pu rfl rfl rfl
theorem power_calls (d : Dk) (w : World) (h : Here (dkI d) w) : Pu Tryz.prog 81 #[.pointer (some ⟨d.b, 0, none⟩)] w (.int .i64 (if d.D.dead then 4 else 0 : Nat)) := by
  refine pu_of [_] Tryz.func81 rfl rfl ?_
  simp only [argSlots]
  refine goA ?_
  refine l_opg rfl (o_pure rfl (by kernel_rfl) rfl (fun w1 hw1 => there_calls d.b w1)) fun _ => ?_
  refine goA ?_
  refine l_opg rfl (o_pure rfl (by kernel_rfl) rfl (fun w1 hw1 => alive_calls d w1 (h.keep hw1))) fun _ => ?_
  refine l_opg rfl (o_pure rfl (by kernel_rfl) rfl (fun w1 hw1 => unless_calls (!d.D.dead) 4 w1)) fun _ => ?_
  refine l_op rfl (o_buildslice rfl rfl rfl rfl rfl rfl) fun ⟨bq, hbq⟩ => ?_
  refine l_opg rfl (o_pure rfl (by kernel_rfl) rfl (fun w1 hw1 => first_calls [0, if !d.D.dead then 0 else 4] (some ⟨bq, 0, none⟩) 2 (by simp) w1 (own_Rd (o := some (bq, 2)) (hw1.item _ (.head _)).1))) fun _ => ?_
  refine goA ?_
  refine x_pu rfl rfl ?_
  cases d.D.dead <;> rfl
theorem has_calls (d : Dk) (at_ : Nat) (hat : at_ < 9223372036854775808) (w : World) (h : Here (dkI d) w) : Pu Tryz.prog 107 #[.pointer (some ⟨d.b, 0, none⟩), .int .i64 at_] w (.int .i64 (if at_ < d.D.on.length then 0 else 2 : Nat)) := by
  refine pu_of [_, _] Tryz.func107 rfl rfl ?_
  simp only [argSlots, Nat.reduceAdd]
  refine goA ?_
  refine l_opg rfl (o_pure rfl (by kernel_rfl) rfl (fun w1 hw1 => dlen_calls d w1 (h.keep hw1))) fun _ => ?_
  by_cases hl : at_ < d.D.on.length
  · rw [if_pos hl]
    refine goA ?_
    refine l_say 12 _ (.bool true) rfl (congrArg Value.bool (decide_eq_true (by omega))) ?_
    refine l_opg rfl (o_pure rfl (by kernel_rfl) rfl (fun w1 hw1 => unless_calls true 2 w1)) fun _ => ?_
    refine goA ?_
    exact x_pu rfl rfl rfl
  · rw [if_neg hl]
    refine goA ?_
    refine l_say 12 _ (.bool false) rfl (congrArg Value.bool (decide_eq_false (by omega))) ?_
    refine l_opg rfl (o_pure rfl (by kernel_rfl) rfl (fun w1 hw1 => unless_calls false 2 w1)) fun _ => ?_
    refine goA ?_
    exact x_pu rfl rfl rfl
end Go.Proofs.YtplhamichcnmmaaGreatDoor
