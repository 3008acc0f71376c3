/- Plain law of splitting at a slash; rows of bools. No program in sight; no condition. -/
import Derived.Test.YtndlmdpljciilaaDoorTell
import Derived.Test.YtndlmdpljciilaaDoorSym
namespace Go.Eng.Pc
open Go.RowKit
def spl : Bs → List Bs
  | [] => [[]]
  | c :: r => if c == 47 then [] :: spl r else match spl r with
    | [] => [[c]]
    | h :: t => (c :: h) :: t
def glue (p : Bs) : List Bs → List Bs
  | [] => [p]
  | h :: t => (p ++ h) :: t
theorem spl_slash {c : UInt8} (h : (c == 47) = true) (r : Bs) : spl (c :: r) = [] :: spl r := by rw [spl, if_pos h]
theorem spl_other {c : UInt8} (h : (c == 47) = false) (r : Bs) : spl (c :: r) = glue [c] (spl r) := by
  rw [spl, if_neg (by rw [h]; simp)]
  cases spl r <;> rfl
theorem glue_ne (p : Bs) (l : List Bs) : glue p l ≠ [] := by cases l <;> simp [glue]
theorem spl_ne (l : Bs) : spl l ≠ [] := by
  cases l with
  | nil => simp [spl]
  | cons c r =>
    by_cases h : (c == 47) = true
    · rw [spl_slash h]; simp
    · rw [spl_other (by simpa using h)]; exact glue_ne _ _
theorem glue_nil {l : List Bs} (h : l ≠ []) : glue [] l = l := by cases l with | nil => exact absurd rfl h | cons a t => rfl
theorem glue_glue (p q : Bs) (l : List Bs) : glue p (glue q l) = glue (p ++ q) l := by cases l <;> simp [glue]
theorem glue_end (p : Bs) : glue p (spl []) = [p] := by simp [glue, spl]
theorem glue_at {c : UInt8} (h : (c == 47) = true) (p r : Bs) : glue p (spl (c :: r)) = p :: spl r := by rw [spl_slash h]; simp [glue]
theorem glue_on {c : UInt8} (h : (c == 47) = false) (p r : Bs) : glue p (spl (c :: r)) = glue (p ++ [c]) (spl r) := by rw [spl_other h, glue_glue]
/-- .. how many: one more than slashes. -/
theorem glue_len (p : Bs) {l : List Bs} (h : l ≠ []) : (glue p l).length = l.length := by cases l with | nil => exact absurd rfl h | cons a t => rfl
theorem spl_len (l : Bs) : (spl l).length = l.count 47 + 1 := by
  induction l with
  | nil => rfl
  | cons c r ih =>
    by_cases h : (c == 47) = true
    · rw [spl_slash h]
      have : c = 47 := by simpa using h
      subst this
      simp [ih]
    · have h' : (c == 47) = false := by simpa using h
      rw [spl_other h', glue_len _ (spl_ne r), ih, List.count_cons, h']; simp
theorem spl_first (p r : Bs) (hp : ∀ c ∈ p, (c == 47) = false) {c : UInt8} (h : (c == 47) = true) : spl (p ++ c :: r) = p :: spl r := by
  induction p with
  | nil => rw [List.nil_append, spl_slash h]
  | cons d p ih =>
    rw [List.cons_append, spl_other (hp d (by simp)), ih (fun c hc => hp c (by simp [hc]))]
    rfl
theorem spl_none (p : Bs) (hp : ∀ c ∈ p, (c == 47) = false) : spl p = [p] := by
  induction p with
  | nil => rfl
  | cons d p ih =>
    rw [spl_other (hp d (by simp)), ih (fun c hc => hp c (by simp [hc]))]
    rfl
/-- Pieces are no longer than the whole. -/
theorem spl_le (l : Bs) : ∀ p ∈ spl l, p.length ≤ l.length := by
  induction l with
  | nil => intro p hp; simp [spl] at hp; simp [hp]
  | cons c r ih =>
    intro p hp
    by_cases h : (c == 47) = true
    · rw [spl_slash h] at hp
      rcases List.mem_cons.1 hp with rfl | hp
      · simp
      · have := ih p hp; simp; omega
    · rw [spl_other (by simpa using h)] at hp
      cases hs : spl r with
      | nil => exact absurd hs (spl_ne r)
      | cons a t =>
        rw [hs] at hp ih
        rcases List.mem_cons.1 hp with rfl | hp
        · have := ih a (by simp); simp; omega
        · have := ih p (by simp [hp]); simp; omega
/-! rows of 17 bools as cells -/
def rowV (r : Row) : Array Value := ((List.range 17).map fun i => Value.bool (r i)).toArray
theorem rowV_size (r : Row) : (rowV r).size = 17 := by simp [rowV]
theorem rowV_at (r : Row) {i : Nat} (h : i < 17) : (rowV r)[i]? = some (.bool (r i)) := by simp [rowV, h]
theorem rowV_up (r : Row) (i : Nat) : (rowV r).setIfInBounds i (.bool true) = rowV (up r i) := by
  refine Array.ext_getElem? fun k => ?_
  by_cases hk : k < 17
  · rw [rowV_at _ hk, up]
    by_cases e : k = i
    · subst e; simp [rowV, hk]
    · rw [Array.getElem?_setIfInBounds_ne (fun h => e h.symm), rowV_at _ hk, if_neg e]
  · rw [Array.getElem?_eq_none (by simp [rowV]; omega), Array.getElem?_eq_none (by simp [rowV]; omega)]
theorem rowV_one (r : Row) : Eng.oneAll (rowV r).toList = true := Eng.oneAll_iff.2 fun v hv => by
  simp only [rowV, List.mem_map] at hv
  obtain ⟨i, -, rfl⟩ := hv
  rfl
/-! names as lists of bytes -/
def bsOf (L : List ByteArray) : List Bs := L.map fun s => s.data.toList
theorem bsOf_len (L : List ByteArray) : (bsOf L).length = L.length := by simp [bsOf]
theorem bsOf_at {L : List ByteArray} {i : Nat} (h : i < L.length) : (bsOf L)[i]? = some L[i].data.toList := by simp [bsOf, h]
theorem bsOf_drop (L : List ByteArray) (i : Nat) : bsOf (L.drop i) = (bsOf L).drop i := by simp [bsOf]
theorem every_iff (s : ByteArray) : (s.data.toList == every) = Eng.seq s ⟨#[42, 42]⟩ := by
  rw [Eng.seq_list]; rfl
def baL (L : List Bs) : List ByteArray := L.map fun l => ⟨l.toArray⟩
theorem bsOf_baL (L : List Bs) : bsOf (baL L) = L := by
  simp only [bsOf, baL, List.map_map]
  exact (List.map_congr_left fun a _ => by simp).trans (List.map_id _)
theorem isEv_bs {L : List ByteArray} {k : Nat} (h : k < L.length) : isEv (bsOf L) k = Eng.seq L[k] ⟨#[42, 42]⟩ := by
  rw [← every_iff]; simp [isEv, bsOf_at h]
end Go.Eng.Pc
