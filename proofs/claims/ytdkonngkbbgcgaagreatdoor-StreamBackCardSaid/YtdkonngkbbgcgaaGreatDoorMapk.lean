/- Maps that are keyed by hashes: their rows in memory, and what is looked up. -/
import Derived.Test.YtdkonngkbbgcgaaGreatDoorSym
import Derived.DeepKeys3
namespace Go.Eng
open Go.RowKit
set_option maxRecDepth 100000
/-- A hash as a value. -/
def hashV (h : List UInt8) : Value := .agg (h.map fun c => Value.int .u8 (c.toNat : Int)).toArray
theorem hashV_inj {a b : List UInt8} (h : hashV a = hashV b) : a = b := by
  unfold hashV at h
  injection h with h
  have h2 := congrArg Array.toList h
  simp only at h2
  have hi : ∀ x y : UInt8, Value.int .u8 (x.toNat : Int) = Value.int .u8 (y.toNat : Int) → x = y := fun x y e => by
    injection e with e1 e2
    exact UInt8.toNat_inj.1 (by omega)
  clear h
  induction a generalizing b with
  | nil => cases b with
    | nil => rfl
    | cons y b => simp at h2
  | cons x a ih => cases b with
    | nil => simp at h2
    | cons y b =>
      rw [List.map_cons, List.map_cons] at h2
      injection h2 with e1 e2
      rw [hi x y e1, ih e2]
/-- A map whose rows are these, in this order. -/
def mapAt (b : Nat) (A : List (List UInt8 × Value)) : Item := ⟨fun k => k = b, fun w => (A.map (·.1)).Nodup ∧ (∀ p ∈ A, p.1.length = 32) ∧ ∃ es clk, w.heap[b]? = some (.map es clk) ∧ es.toList.map (fun e => (e.key, e.val)) = A.map fun p => (hashV p.1, p.2)⟩
theorem mapAt_stable (ro : Nat → Prop) (b : Nat) (A : List (List UInt8 × Value)) : (mapAt b A).Stable ro := fun _ _ h ⟨h1, h2, es, clk, h3, h4⟩ => ⟨h1, h2, es, clk, (h b (.inr rfl)).trans h3, h4⟩
/-- What is found in rows. -/
theorem find_rows {P : Program} {k : TypeId} (KL : WideMaps.KeyLaw P k) (hkeys : ∀ h : List UInt8, h.length = 32 → ∃ l, keyOf P k (hashV h) = some l) {A : List (List UInt8 × Value)} {es : List MapEntry} (hn : (A.map (·.1)).Nodup) (hl : ∀ p ∈ A, p.1.length = 32) (he : es.map (fun e => (e.key, e.val)) = A.map fun p => (hashV p.1, p.2)) {h : List UInt8} (hh : h.length = 32) (w : World) :
    ((Instr.findKey k (hashV h) es).run P w = .ok none w ∧ A.lookup h = none) ∨ ∃ j v, (Instr.findKey k (hashV h) es).run P w = .ok (some (j, v)) w ∧ A.lookup h = some v ∧ A[j]? = some (h, v) := by
  obtain ⟨lk, hkey⟩ := hkeys h hh
  have hlen : es.length = A.length := by have := congrArg List.length he; simpa using this
  have hat : ∀ (j : Nat) (hj : j < es.length) (hj' : j < A.length), es[j].key = hashV A[j].1 ∧ es[j].val = A[j].2 := fun j hj hj' => by
    have := congrArg (fun l => l[j]?) he
    simp only [List.getElem?_map, List.getElem?_eq_getElem hj, List.getElem?_eq_getElem hj', Option.map_some, Option.some.injEq, Prod.mk.injEq] at this
    exact this
  have hall : ∀ e ∈ es, ∃ l, keyOf P k e.key = some l := fun e hm => by
    obtain ⟨j, hj, rfl⟩ := List.getElem_of_mem hm
    rw [(hat j hj (by omega)).1]
    exact hkeys _ (hl _ (List.getElem_mem _))
  rcases KL.find w hkey es hall with ⟨h1, h2⟩ | ⟨j, e, h1, h2, h3⟩
  · refine .inl ⟨h1, ?_⟩
    rw [List.lookup_eq_none_iff]
    intro p hp
    obtain ⟨j, hj, rfl⟩ := List.getElem_of_mem hp
    have h4 := h2 _ (List.getElem_mem (show j < es.length by omega))
    rw [(hat j (by omega) hj).1] at h4
    simp only [bne_iff_ne, ne_eq]
    exact fun e => h4 (by rw [e])
  · have hj : j < es.length := by
      rcases Nat.lt_or_ge j es.length with hj | hj
      · exact hj
      · rw [List.getElem?_eq_none hj] at h2; cases h2
    rw [List.getElem?_eq_getElem hj] at h2
    injection h2 with h2
    have ha := hat j hj (by omega)
    rw [h2] at ha
    have hk : A[j].1 = h := hashV_inj (ha.1.symm.trans h3)
    have hAj : A[j]? = some (h, e.val) := by
      rw [List.getElem?_eq_getElem (show j < A.length by omega), ha.2, ← hk]
    refine .inr ⟨j, e.val, h1, ?_, hAj⟩
    clear hk hat hall h1 h2 h3 ha hj hlen he hl
    induction A generalizing j with
    | nil => simp at hAj
    | cons a A ih =>
      rw [List.map_cons, List.nodup_cons] at hn
      cases j with
      | zero =>
        simp only [List.getElem?_cons_zero, Option.some.injEq] at hAj
        subst hAj
        simp [List.lookup]
      | succ j =>
        simp only [List.getElem?_cons_succ] at hAj
        have hm : h ∈ A.map (·.1) := List.mem_map.2 ⟨_, List.mem_of_getElem? hAj, rfl⟩
        have hne : (h == a.1) = false := by
          rw [beq_eq_false_iff_ne]
          exact fun e => hn.1 (e ▸ hm)
        obtain ⟨a1, a2⟩ := a
        simp only [List.lookup, hne]
        exact ih hn.2 j hAj
end Go.Eng
