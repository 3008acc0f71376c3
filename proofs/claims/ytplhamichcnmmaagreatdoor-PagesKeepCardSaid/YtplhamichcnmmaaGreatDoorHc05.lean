/- Rows of many cells an element: loads, stores, copies, makes; memory that is read alone (ghost heaps). Own work over the guide's laws; no condition. -/
import Derived.Test.YtplhamichcnmmaaGreatDoorHc04
import Derived.Test.YtplhamichcnmmaaGreatDoorHc02
import Derived.Laws.CopyRow
namespace Go.Eng
open Go.RowKit
variable {P : Program} {Q : Exit → Act → World → Prop} {N : Fm} {l : Slots} {H : World → Prop} {ops : Array Oper} {rest : List Oper} {w0 : World} {F : Nat → Prop} {m : List Item} {ty : TypeId} {pos : String} {after : Array Edge} {g : Option (Nat × Bool)} {d : Nat}
/-! ### elements of several cells -/
def rowsV {α : Type} (enc : α → List Value) (L : List α) : List Value := L.flatMap enc
section
variable {α : Type} {enc : α → List Value} {sz : Nat}
theorem rowsV_length (hsz : ∀ a, (enc a).length = sz) (L : List α) : (rowsV enc L).length = L.length * sz := by
  induction L with
  | nil => simp [rowsV]
  | cons a L ih => simp only [rowsV, List.flatMap_cons, List.length_append, List.length_cons] at ih ⊢; rw [ih, hsz, Nat.add_mul, Nat.one_mul, Nat.add_comm]
theorem rowsV_append (L M : List α) : rowsV enc (L ++ M) = rowsV enc L ++ rowsV enc M := by simp [rowsV]
theorem rowsV_one (a : α) : rowsV enc [a] = enc a := by simp [rowsV]
theorem rowsV_cons (a : α) (L : List α) : rowsV enc (a :: L) = enc a ++ rowsV enc L := by simp [rowsV]
theorem rowsV_drop (hsz : ∀ a, (enc a).length = sz) (L : List α) (i : Nat) : rowsV enc (L.drop i) = (rowsV enc L).drop (i * sz) := by
  induction L generalizing i with
  | nil => simp [rowsV]
  | cons a L ih =>
    cases i with
    | zero => simp [rowsV]
    | succ i =>
      have h1 : (enc a).drop ((i + 1) * sz) = [] := List.drop_of_length_le (by rw [hsz, Nat.add_mul]; omega)
      have h2 : (i + 1) * sz - (enc a).length = i * sz := by rw [hsz, Nat.add_mul]; omega
      rw [List.drop_succ_cons, rowsV_cons, ih, List.drop_append, h1, h2, List.nil_append]
theorem rowsV_at (hsz : ∀ a, (enc a).length = sz) {L : List α} {i : Nat} (hi : i < L.length) {j : Nat} (hj : j < sz) : (rowsV enc L)[i * sz + j]? = (enc L[i])[j]? := by
  have h := rowsV_drop hsz L i
  rw [List.drop_eq_getElem_cons hi, rowsV_cons] at h
  have h2 := congrArg (fun x => x[j]?) h
  simp only [List.getElem?_drop] at h2
  rw [← h2, List.getElem?_append_left (by rw [hsz]; exact hj)]
end
theorem Rd.at_ {w : World} {a : Option Addr} {xs : List Value} (h : Rd w a xs) (h0 : xs ≠ []) : ∃ b off, a = some ⟨b, off, none⟩ ∧ w.rangeAt b off xs := by
  rcases h with h | ⟨b, off, h1, h2⟩
  · exact absurd h h0
  · exact ⟨b, off, h1, h2⟩
theorem Rd.row {w : World} {b off : Nat} {α : Type} {enc : α → List Value} {sz : Nat} (hsz : ∀ a, (enc a).length = sz) {L : List α} (h : w.rangeAt b off (rowsV enc L)) {i : Nat} (hi : i < L.length) : w.rangeAt b (off + i * sz) (enc L[i]) := fun j v hv => by
  have hj : j < sz := by have := (List.getElem?_eq_some_iff.1 hv).1; rwa [hsz] at this
  rw [Nat.add_assoc]
  exact h _ _ (by rw [rowsV_at hsz hi hj]; exact hv)
theorem Rd.mk {w : World} {b off : Nat} {xs : List Value} (h : w.rangeAt b off xs) : Rd w (some ⟨b, off, none⟩) xs := .inr ⟨b, off, rfl, h⟩
theorem rangeAt_take {w : World} {b off k : Nat} {xs : List Value} (h : w.rangeAt b off xs) : w.rangeAt b off (xs.take k) := fun j v hv => by
  rw [List.getElem?_take] at hv
  split at hv
  · exact h j v hv
  · cases hv
theorem rangeAt_drop {w : World} {b off k : Nat} {xs : List Value} (h : w.rangeAt b off xs) : w.rangeAt b (off + k) (xs.drop k) := fun j v hv => by
  rw [List.getElem?_drop] at hv
  rw [Nat.add_assoc]; exact h _ v hv
theorem rangeAt_old {w : World} {b off : Nat} {xs : List Value} (h : w0.rangeAt b off xs) (hF : ¬ F b) (hw : Hp w0 F m w) : w.rangeAt b off xs := fun j v hv => hw.old hF (h j v hv)
theorem rangeAt_pt {w : World} {b : Nat} {cs : List Value} {E : TypeId} {fz : Nat × Nat} (h : w.heap[b]? = some (.cells cs.toArray E fz)) : w.rangeAt b 0 cs := fun j v hv => by
  rw [Nat.zero_add, cell_of_row w b j _ E fz h]; simpa using hv
theorem rangeAt_own {w : World} {e : TypeId} {sz n b c : Nat} {xs : List Value} (h : (own e sz (some (b, c)) n xs).prop w) : w.rangeAt b 0 xs := fun j v hv => by rw [Nat.zero_add]; exact own_rd h j v hv
theorem v_loadc {T : TypeId} {x : Operand} {b off : Nat} {xs : List Value} (hx : evO l x = some (.pointer (some ⟨b, off, none⟩))) (hT : rowOf P T = some xs.length)
    (hr : ∀ w, H w → w.rangeAt b off xs) : OV P (.load T x) ty l H (.agg xs.toArray) := ov fun _ _ _ w hw => by
  have hl : (loadVar T ⟨b, off, none⟩).run P w = .ok (.agg xs.toArray) w := by
    unfold rowOf at hT
    split at hT
    · rename_i hu; exact run_loadVar_mid (P := P) w b off T _ _ (hr w hw) hu rfl hT
    · rename_i hu; exact run_loadVar_mid (P := P) w b off T _ _ (hr w hw) hu rfl hT
    · cases hT
  simp only [execOp, ev_of hx, Instr.loadAt, Instr.sureAddr, Sem.run_bind, Sem.run_pure, Result.andThen_ok, hl]
theorem v_loadcE {T : TypeId} {x : Operand} {b off : Nat} {xs : List Value} {c : Array Value} (hx : evO l x = some (.pointer (some ⟨b, off, none⟩))) (hT : rowOf P T = some xs.length)
    (hr : ∀ w, H w → w.rangeAt b off xs) (hc : xs.toArray = c) : OV P (.load T x) ty l H (.agg c) := by subst hc; exact v_loadc hx hT hr
/-! ### writes into a block -/
def put (cs : List Value) (off : Nat) (vs : List Value) : List Value := cs.take off ++ vs ++ cs.drop (off + vs.length)
theorem Hp.setRow {w : World} {b : Nat} {cur : Array Value} {E : TypeId} {fz : Nat × Nat} (hw : Hp w0 F (pt b (.cells cur E fz) :: m) w) (cs' : Array Value) : Hp w0 F (pt b (.cells cs' E fz) :: m) (w.setRow b cs') :=
  hw.turn _ (setRow_heap w b cur cs' E fz (hw.get (by simp))) (fun k hk => setRow_other w b k _ hk) (by simp) rfl rfl rfl
theorem o_storer {T : TypeId} {x y : Operand} {b off : Nat} {cs : List Value} {vs : Array Value} {E : TypeId} (hok : (noSel (.store T x y) && known l (.store T x y)) = true)
    (hx : evO l x = some (.pointer (some ⟨b, off, none⟩))) (hy : evO l y = some (.agg vs)) (hT : (P.info? T).map (·.size) = some vs.size) (h1' : oneAll vs.toList = true) (hs : off + vs.size ≤ cs.length) :
    HO P ⟨none, .store T x y, ty, pos, after, g⟩ Q N l (Hp w0 F (pt b (.cells cs.toArray E (0, 0)) :: m)) (α := Unit) (fun _ => l) (fun _ => Hp w0 F (pt b (.cells (put cs off vs.toList).toArray E (0, 0)) :: m)) :=
  o_skip hok (fun w hw => by
    have hb := hw.get (b := b) (o := .cells cs.toArray E (0, 0)) (by simp)
    have hst := run_storeCells_at P b off E vs.toList 0 cs.toArray w hb (by simpa using hs) (oneAll_iff.1 h1')
    refine ⟨(), w.setRow b (put cs off vs.toList).toArray, ?_, hw.setRow _⟩
    cases hq : P.info? T with
    | none => simp [hq] at hT
    | some i =>
      have hsz : i.size = vs.size := by simpa [hq] using hT
      simp only [Nat.add_zero] at hst
      simp [execOp, ev_of hx, ev_of hy, Instr.storeAt, Instr.sureAddr, storeVar, sizeOf, typeInfo, hq, Value.cells, hsz]
      rw [hst]
      simp [put])
theorem run_copy_rows (w : World) (dT sT ty elem : TypeId) (sz b o dLen dCap : Nat) (a : Option Addr) (sLen sCap : Nat) (cur : Array Value) (t : TypeId) (cs : List Value)
    (hu : P.underlying dT = some (.slice elem)) (hs : (P.info? elem).map (·.size) = some sz) (hg : w.heap[b]? = some (.cells cur t (0, 0))) (hn : cs.length = Nat.min sLen dLen * sz)
    (hsrc : Rd w a cs) (h0 : a = none → sLen = 0) (hfit : o + cs.length ≤ cur.size) (h1 : ∀ v ∈ cs, v.oneCell' = true) :
    (Builtin.copy_ #[dT, sT] ty #[.slice (some ⟨b, o, none⟩) dLen dCap, .slice a sLen sCap]).run P w = .ok (goInt (Nat.min sLen dLen)) (w.setRow b (put cur.toList o cs).toArray) := by
  have hst := run_storeCells_at P b o t cs 0 cur w hg (by simpa using hfit) h1
  simp only [Nat.add_zero] at hst
  cases hq : P.info? elem with
  | none => simp [hq] at hs
  | some i =>
    have hi : i.size = sz := by simpa [hq] using hs
    cases a with
    | none =>
      obtain rfl := h0 rfl
      have hmin : Nat.min 0 dLen = 0 := Nat.zero_min _
      rw [hmin, Nat.zero_mul] at hn
      obtain rfl : cs = [] := List.eq_nil_of_length_eq_zero hn
      simp [Builtin.copy_, run_underlying hu, Builtin.lenOf, Builtin.firstCells, sizeOf, typeInfo, hq, hmin]
      simp [storeCells]
      simp [put]
      exact (setRow_self w b cur t (0, 0) hg).symm
    | some a =>
      have hl : ∀ k, cs.length = k → (loadCells a k).run P w = .ok cs.toArray w := fun k hk => by
        subst hk
        refine run_loadCells_list (P := P) w a cs fun j v hv => ?_
        rcases hsrc with h | ⟨b', off', h, h2⟩
        · subst h; simp at hv
        · obtain rfl := Option.some.inj h
          rw [add_at]; exact h2 j v hv
      have := hl _ hn
      simp [Builtin.copy_, run_underlying hu, Builtin.lenOf, Builtin.firstCells, sizeOf, typeInfo, hq, hi, this]
      rw [hst]
      simp [put]
theorem o_copyr {dT sT e : TypeId} {x y : Operand} {b o n c sLen sCap sz : Nat} {a : Option Addr} {cur cs : List Value} {t : TypeId} (hok : okOp N l (.call ⟨.builtin .copy, #[x, y], #[dT, sT]⟩) d = true)
    (hx : evO l x = some (.slice (some ⟨b, o, none⟩) n c)) (hy : evO l y = some (.slice a sLen sCap)) (hT : sliE P dT = some e) (he : cellsT P e = some sz) (hn : cs.length = min sLen n * sz)
    (hsrc : ∀ w, Hp w0 F (pt b (.cells cur.toArray t (0, 0)) :: m) w → Rd w a cs) (h0 : a = none → sLen = 0) (hfit : o + cs.length ≤ cur.length) (h1 : oneAll cs = true) :
    HO P ⟨some d, .call ⟨.builtin .copy, #[x, y], #[dT, sT]⟩, ty, pos, after, g⟩ Q N l (Hp w0 F (pt b (.cells cur.toArray t (0, 0)) :: m)) (α := Unit) (fun _ => (d, .int .i64 (min sLen n : Nat)) :: l) (fun _ => Hp w0 F (pt b (.cells (put cur o cs).toArray t (0, 0)) :: m)) :=
  o_mem (val := fun _ => .int .i64 (min sLen n : Nat)) hok (fun w hw => by
    obtain ⟨i, hi, his⟩ := cellsT_spec he
    have hr := run_copy_rows (P := P) w dT sT ty e sz b o n c a sLen sCap cur.toArray t cs (sliE_spec hT) (by rw [hi, Option.map_some, his]) (hw.get (by simp)) hn (hsrc w hw) h0 (by simpa using hfit) (oneAll_iff.1 h1)
    refine ⟨(), _, ?_, hw.setRow _⟩
    simp only [execOp, resolve, invoke, builtin]
    simp [ev_of hx, ev_of hy, hr, goInt])
/-! ### make -/
theorem o_maker {T e : TypeId} {x y : Operand} {n b sz : Nat} {z : Value} {k1 k2 : IntKind} {i j : Int} [h : NatOf i n] [h' : NatOf j n] (hok : okOp N l (.makeSlice T x y) d = true) (hx : evO l x = some (.int k1 i)) (hy : evO l y = some (.int k2 j))
    (hT : sliE P T = some e) (hi : infoE P e = some (sz, b, z)) (hb : (b + 1) * n ≤ 281474976710656) :
    HO P ⟨some d, .makeSlice T x y, ty, pos, after, g⟩ Q N l (Hp w0 F m) (α := { c : Nat // w0.heap.size ≤ c }) (fun c => (d, .slice (some ⟨c.1, 0, none⟩) n n) :: l) (fun c => Hp w0 F (pt c.1 (.cells (zerosL z (n * sz)).toArray e (0, 0)) :: m)) := by
  obtain rfl := h.eq; obtain rfl := h'.eq
  exact o_mem (val := fun c : { b : Nat // w0.heap.size ≤ b } => .slice (some ⟨c.1, 0, none⟩) n n) hok (fun w hw => by
    obtain ⟨q, h1, h2, h3, h4⟩ := infoE_spec hi
    have hb' : b * n + n ≤ 281474976710656 := by rwa [Nat.add_mul, Nat.one_mul] at hb
    refine ⟨⟨w.heap.size, hw.fr.size⟩, w.alloc (.cells (zerosL z (n * sz)).toArray e), ?_, hw.alloc _⟩
    have hr := run_make (P := P) w T e q z (sliE_spec hT) h1 h4 k1 k2 n n (by omega) (by omega) (by rw [h3]; generalize hq : b * n = q at hb'; rw [← Int.natCast_mul, hq]; omega) (by generalize b * n = q at hb'; omega)
    have hm : madeCells z.cells (n * sz) = (zerosL z (n * sz)).toArray := by
      apply Array.ext'
      simp [madeCells, zerosL, Array.toList_range]
    rw [h2, Int.toNat_natCast, hm] at hr
    simp only [execOp, ev_of hx, ev_of hy, Sem.run_bind, hr, Result.andThen_ok, Sem.run_pure])
/-! ### append to what is full -/
/-! ### slicing -/
theorem v_sl3 {T e : TypeId} {x y z : Operand} {a : Option Addr} {n c sz : Nat} {k k' : IntKind} {p q : Int} {i j : Nat} [h : NatOf p i] [h' : NatOf q j] (hx : evO l x = some (.slice a n c)) (hy : evO l y = some (.int k p)) (hz : evO l z = some (.int k' q)) (hT : sliE P T = some e) (he : cellsT P e = some sz) (hi : i ≤ j ∧ j ≤ c) :
    OV P (.slice T x none (some y) (some z)) ty l H (.slice a i j) := ov fun _ _ _ w _ => by
  obtain rfl := h.eq; obtain rfl := h'.eq
  have hu := sliE_spec hT
  have hu' : P.underlying T = some (.slice (P.elem T)) := by rw [hu]; simp [Program.elem, hu]
  have he' : P.elem T = e := by simp [Program.elem, hu]
  obtain ⟨r, hq, hqs⟩ := cellsT_spec he
  have h := run_slice_hm (P := P) w T a n c hu' k k' i j (by omega) (by omega) (by omega)
  have hzz : (sizeOf (P.elem T)).run P w = .ok sz w := by rw [he']; simp [sizeOf, typeInfo, hq, hqs]
  simp only [execOp, ev_of hx, Option.map_some, Option.map_none, ev_of hy, ev_of hz, Sem.run_bind, run_sliceAt_slice w T _ _ _ _ hu', h, hzz, Result.andThen_ok, Int.toNat_natCast, sliced]
  cases a <;> simp [Sem.run_pure, Addr.add]
theorem v_slA {T e : TypeId} {x : Operand} {a : Option Addr} {n c sz : Nat} (hx : evO l x = some (.slice a n c)) (hT : sliE P T = some e) (he : cellsT P e = some sz) : OV P (.slice T x none none none) ty l H (.slice a n c) := ov fun _ _ _ w _ => by
  have hu := sliE_spec hT
  have hu' : P.underlying T = some (.slice (P.elem T)) := by rw [hu]; simp [Program.elem, hu]
  have he' : P.elem T = e := by simp [Program.elem, hu]
  obtain ⟨r, hq, hqs⟩ := cellsT_spec he
  have h := run_slice_all (P := P) w T a n c hu'
  have hzz : (sizeOf (P.elem T)).run P w = .ok sz w := by rw [he']; simp [sizeOf, typeInfo, hq, hqs]
  simp only [execOp, ev_of hx, Option.map_none, Sem.run_bind, run_sliceAt_slice w T _ _ _ _ hu', h, hzz, Result.andThen_ok, sliced]
  cases a <;> simp [Sem.run_pure, Addr.add]
theorem v_slLH {T e : TypeId} {x y z : Operand} {a : Option Addr} {n c sz : Nat} {k k' : IntKind} {p q : Int} {i j : Nat} [h : NatOf p i] [h' : NatOf q j] (hx : evO l x = some (.slice a n c)) (hy : evO l y = some (.int k p)) (hz : evO l z = some (.int k' q)) (hT : sliE P T = some e) (he : cellsT P e = some sz) (hi : i ≤ j ∧ j ≤ c) :
    OV P (.slice T x (some y) (some z) none) ty l H (.slice (slAt a (decide (c = i)) (i * sz)) (j - i) (c - i)) := ov fun _ _ _ w _ => by
  obtain rfl := h.eq; obtain rfl := h'.eq
  have hu := sliE_spec hT
  have hu' : P.underlying T = some (.slice (P.elem T)) := by rw [hu]; simp [Program.elem, hu]
  have he' : P.elem T = e := by simp [Program.elem, hu]
  obtain ⟨r, hq, hqs⟩ := cellsT_spec he
  have h := run_slice_lh (P := P) w T a n c hu' k k' i j (by omega) (by omega) (by omega)
  have hzz : (sizeOf (P.elem T)).run P w = .ok sz w := by rw [he']; simp [sizeOf, typeInfo, hq, hqs]
  simp only [execOp, ev_of hx, Option.map_some, Option.map_none, ev_of hy, ev_of hz, Sem.run_bind, run_sliceAt_slice w T _ _ _ _ hu', h, hzz, Result.andThen_ok, Int.toNat_natCast, sliced, slAt]
  simp [Sem.run_pure]
/-! ### memory that is only read: ghost heaps -/
abbrev Gh := Nat → Option Obj
def Gh.In (h : Gh) (w : World) : Prop := ∀ b o, h b = some o → w.heap[b]? = some o
def Gh.one (b : Nat) (o : Obj) : Gh := fun k => if k = b then some o else none
def Gh.nil : Gh := fun _ => none
def Gh.le (h h' : Gh) : Prop := ∀ b o, h b = some o → h' b = some o
def mp (h : Gh) : Item := ⟨fun k => (h k).isSome = true, fun w => h.In w⟩
theorem mp_stable (ro : Nat → Prop) (h : Gh) : (mp h).Stable ro := fun w w' hk hp b o hb => by
  have : (mp h).foot b := by show (h b).isSome = true; rw [hb]; rfl
  rw [hk b (.inr this)]; exact hp b o hb
theorem Gh.le_refl (h : Gh) : h.le h := fun _ _ h => h
theorem Gh.le_trans {h h' h'' : Gh} (a : h.le h') (b : h'.le h'') : h.le h'' := fun x o hx => b x o (a x o hx)
theorem Gh.In.old {h : Gh} {w : World} (h1 : h.In w0) (hF : ∀ b, (h b).isSome = true → ¬ F b) (hw : Hp w0 F m w) : h.In w := fun b o hb => by
  have h2 := h1 b o hb
  rw [hw.fr.block b (Array.getElem?_eq_some_iff.1 h2).1 (hF b (by rw [hb]; rfl))]
  exact h2
theorem Gh.In.fr {h : Gh} {w w' : World} (h1 : h.In w) (hf : Fr none' w w') : h.In w' := fun b o hb => by
  have h2 := h1 b o hb
  rw [hf.block b (Array.getElem?_eq_some_iff.1 h2).1 (fun h => h)]
  exact h2
theorem Gh.In.le {h h' : Gh} {w : World} (h1 : h'.In w) (hl : h.le h') : h.In w := fun b o hb => h1 b o (hl b o hb)
theorem Gh.In.cell {h : Gh} {w : World} (h1 : h.In w) {b : Nat} {cs : List Value} {E : TypeId} {fz : Nat × Nat} (hb : h b = some (.cells cs.toArray E fz)) : w.rangeAt b 0 cs := rangeAt_pt (h1 b _ hb)
theorem x_imp {e : Exit} {m' : List Item} (hI : ∀ w, Hp w0 F m w → Hp w0 F m' w) (h : HX Q e N l (Hp w0 F m')) : HX Q e N l (Hp w0 F m) := by
  unfold HX at *; exact fun a w s hw => h a w s (hI w hw)
theorem t_imp {c : Code} {m' : List Item} (hI : ∀ w, Hp w0 F m w → Hp w0 F m' w) (h : HT P c Q N l (Hp w0 F m')) : HT P c Q N l (Hp w0 F m) := by
  unfold HT at *; exact fun a w s hw => h a w s (hI w hw)
theorem l_imp {m' : List Item} (hI : ∀ w, Hp w0 F m w → Hp w0 F m' w) (h : HL P ops Q N rest l (Hp w0 F m')) : HL P ops Q N rest l (Hp w0 F m) := by
  unfold HL at *; exact fun a w s hw => h a w s (hI w hw)
/-! ### items to the front -/
theorem bring5 {α : Type} (a b c d e f : α) (l : List α) : (a :: b :: c :: d :: e :: f :: l).Perm (f :: a :: b :: c :: d :: e :: l) := (List.Perm.cons a (bring4 _ _ _ _ _ _)).trans (.swap _ _ _)
/-! ### pointers -/
theorem v_nc {x : Operand} {v : Addr} (hx : evO l x = some (.pointer (some v))) : OV P (.nilCheck x) ty l H (.pointer (some v)) := ov fun _ _ _ w _ => by simp only [execOp, ev_of hx]; rfl
/-! ### copies into a new row from its i-th element on; stores whose value is told -/
theorem put_nil {cs : List Value} {off : Nat} : put cs off [] = cs := by simp [put]
theorem o_storerE {T : TypeId} {x y : Operand} {b off : Nat} {cs : List Value} {vs : Array Value} {V : List Value} {E : TypeId} (hok : (noSel (.store T x y) && known l (.store T x y)) = true)
    (hx : evO l x = some (.pointer (some ⟨b, off, none⟩))) (hy : evO l y = some (.agg vs)) (hv : vs.toList = V) (hT : (P.info? T).map (·.size) = some V.length) (h1' : oneAll V = true) (hs : off + V.length ≤ cs.length) :
    HO P ⟨none, .store T x y, ty, pos, after, g⟩ Q N l (Hp w0 F (pt b (.cells cs.toArray E (0, 0)) :: m)) (α := Unit) (fun _ => l) (fun _ => Hp w0 F (pt b (.cells (put cs off V).toArray E (0, 0)) :: m)) := by
  subst hv
  rw [Array.length_toList] at hT hs
  exact o_storer hok hx hy hT h1' hs
/-! ### two operations that turn memory, in either order -/
section
variable {S : World → Prop} {t : Nat}
theorem d_two (i j : Nat) {oi oj : Oper} {n : Nat} {listed : Array Bool} {α β : Type} {li : α → Slots} {Hi : α → World → Prop} {lj : β → Slots} {Hj : β → World → Prop} (hr0 : Region.ready .any ops listed = [i, j] ∧ i < t ∧ j < t) (hi0 : nth ops.toList i = some oi) (hj0 : nth ops.toList j = some oj) (gi : oi.guard = none) (gj : oj.guard = none)
    (hi : HO P oi (calm Q) N l H li Hi) (hj : HO P oj (calm Q) N l H lj Hj) (hSi : ∀ x w, Hi x w → S w) (hSj : ∀ x w, Hj x w → S w)
    (ki : ∀ x, HD P ops Q S t N n (listed.setIfInBounds i true) (li x) (Hi x)) (kj : ∀ x, HD P ops Q S t N n (listed.setIfInBounds j true) (lj x) (Hj x)) : HD P ops Q S t N (n + 1) listed l H := by
  unfold HD HO at *
  intro inv a w s hw
  have hi1 := nth_ops hi0
  have hj1 := nth_ops hj0
  obtain ⟨hr, hlt, hlt'⟩ := hr0
  have hmi : i ∈ Region.ready .any ops listed := by rw [hr]; simp
  have hmj : j ∈ Region.ready .any ops listed := by rw [hr]; simp
  refine ⟨fun h => (by rw [hr] at h; cases h), fun k hk => ?_⟩
  rw [hr] at hk
  unfold wpOp
  rcases List.mem_cons.1 hk with rfl | hk
  · simp only [hi1]
    rw [if_pos (by simp [Region.wanted, gi])]
    exact .inl (And.right <| hi a w s hw _ fun x a' w' s' hw' => ⟨fun _ => hSi x w' hw', ki x (inv.set hmi hlt) a' w' s' hw'⟩)
  · obtain rfl : k = j := by simpa using hk
    simp only [hj1]
    rw [if_pos (by simp [Region.wanted, gj])]
    exact .inl (And.right <| hj a w s hw _ fun x a' w' s' hw' => ⟨fun _ => hSj x w' hw', kj x (inv.set hmj hlt') a' w' s' hw'⟩)
theorem d_perm {n : Nat} {listed : Array Bool} {m' : List Item} (hp : m.Perm m') (h : HD P ops Q S t N n listed l (Hp w0 F m')) : HD P ops Q S t N n listed l (Hp w0 F m) := by
  unfold HD at *; exact fun inv a w s hw => h inv a w s (hw.perm hp)
end
theorem v_loadn {T : TypeId} {x : Operand} {b i : Nat} {v : Value} {cs : Array Value} {E : TypeId} {fz : Nat × Nat} (hx : evO l x = some (.pointer (some ⟨b, i, none⟩))) (hT : oneOf P T = true)
    (hm : pt b (.cells cs E fz) ∈ m) (hv : nth cs.toList i = some v) : OV P (.load T x) ty l (Hp w0 F m) v := v_loadp hx hT hm (by rw [nth_eq] at hv; simpa using hv)
end Go.Eng
