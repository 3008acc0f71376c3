/- Whether a stream may be: as the program asks it, and as the document says it. -/
import Derived.Test.YtdkonngkbbgcgaaGreatDoorStrp
namespace Go.Proofs.YtdkonngkbbgcgaaGreatDoor
set_option maxRecDepth 100000
/-- Where a hash stands first; the length: nowhere. -/
def atN (l : List Bys) (h : Bys) : Nat := l.findIdx fun x => decide (x = h)
theorem at_lt (l : List Bys) (h : Bys) (i : Nat) (hi : i ≤ l.length) : atN l h < i ↔ h ∈ l.take i := by
  constructor
  · intro hl
    have hlt : atN l h < l.length := by omega
    have := List.findIdx_getElem (w := hlt)
    have hx : l[atN l h] = h := of_decide_eq_true this
    rw [List.mem_take_iff_getElem]
    exact ⟨atN l h, by omega, hx⟩
  · intro hm
    obtain ⟨j, hj, hx⟩ := List.mem_take_iff_getElem.1 hm
    rcases Nat.lt_or_ge j (atN l h) with hlt | hge
    · have := List.not_of_lt_findIdx hlt
      simp only [hx, decide_true] at this
      exact absurd this.symm Bool.false_ne_true
    · omega
theorem at_le (l : List Bys) (h : Bys) : atN l h ≤ l.length := List.findIdx_le_length
theorem at_mem (l : List Bys) (h : Bys) : atN l h < l.length ↔ h ∈ l := by
  rw [at_lt l h l.length (Nat.le_refl _), List.take_length]
theorem unlike_iff (l : List Bys) : l.Nodup ↔ ∀ (i : Nat) (h : i < l.length), atN l l[i] = i := by
  unfold List.Nodup
  rw [List.pairwise_iff_getElem]
  constructor
  · intro hp i hi
    have h1 : atN l l[i] < i + 1 := (at_lt l _ (i + 1) (by omega)).2 (List.mem_take_iff_getElem.2 ⟨i, by omega, rfl⟩)
    have hlt : atN l l[i] < l.length := by omega
    have h2 : l[atN l l[i]] = l[i] := of_decide_eq_true (List.findIdx_getElem (w := hlt))
    rcases Nat.lt_or_ge (atN l l[i]) i with h3 | h3
    · exact absurd h2 (hp _ _ hlt hi h3)
    · omega
  · intro ha i j hi hj hij he
    have h1 : atN l l[j] < i + 1 := (at_lt l _ (i + 1) (by omega)).2 (List.mem_take_iff_getElem.2 ⟨i, by omega, he⟩)
    rw [ha j hj] at h1
    omega
/-- A chunk's children (none: it is no chunk) may stand at i. -/
def kidsOk (hs : List Bys) (i : Nat) (k : Option (List Bys)) : Bool := match k with
  | none => false
  | some l => l.all fun h => decide (atN hs h = hs.length) || decide (h ∈ hs.take i)
/-- As the document says it, of a chunk at i. -/
def refOk (hs : List Bys) (i : Nat) (x : Bys × Option (List Bys)) : Bool := match x.2 with
  | none => false
  | some l => decide (atN hs x.1 = i) && l.all fun h => decide (atN hs h = hs.length) || decide (atN hs h < i)
theorem ok_iff (hs : List Bys) {i : Nat} (hi : i < hs.length) (k : Option (List Bys)) (hu : atN hs hs[i] = i) : refOk hs i (hs[i], k) = kidsOk hs i k := by
  unfold refOk kidsOk
  cases k with
  | none => rfl
  | some l =>
    simp only [hu, decide_true, Bool.true_and]
    congr 1
    funext h
    congr 1
    exact decide_eq_decide.2 (at_lt hs h i (by omega))
/-- All chunks, from the i-th on. -/
def allFrom {α : Type} (f : Nat → α → Bool) : Nat → List α → Bool
  | _, [] => true
  | i, x :: l => f i x && allFrom f (i + 1) l
theorem allFrom_congr {α β : Type} {f : Nat → α → Bool} {g : Nat → β → Bool} : ∀ (l : List α) (m : List β) (i : Nat), l.length = m.length → (∀ j (h : j < l.length) (h' : j < m.length), f (i + j) l[j] = g (i + j) m[j]) → allFrom f i l = allFrom g i m
  | [], [], _, _, _ => rfl
  | [], _ :: _, _, h, _ => by cases h
  | _ :: _, [], _, h, _ => by cases h
  | x :: l, y :: m, i, hl, h => by
    have h0 := h 0 (by simp) (by simp)
    simp only [Nat.add_zero, List.getElem_cons_zero] at h0
    rw [allFrom, allFrom, h0]
    congr 1
    refine allFrom_congr l m (i + 1) (by simpa using hl) fun j hj hj' => ?_
    have := h (j + 1) (by simp only [List.length_cons]; omega) (by simp only [List.length_cons]; omega)
    simp only [List.getElem_cons_succ] at this
    rw [show i + 1 + j = i + (j + 1) by omega]
    exact this
/-- What the program asks. -/
def mayP (hs : List Bys) (ks : List (Option (List Bys))) : Bool := decide hs.Nodup && decide (hs.length ≤ 512) && allFrom (kidsOk hs) 0 ks
/-- What the document says. -/
def mayR (hs : List Bys) (ks : List (Option (List Bys))) : Bool := decide (hs.length ≤ 512) && allFrom (refOk hs) 0 (hs.zip ks)
theorem all_at {α : Type} {f : Nat → α → Bool} : ∀ (l : List α) (i : Nat), allFrom f i l = true → ∀ j (h : j < l.length), f (i + j) l[j] = true
  | [], _, _, _, h => by cases h
  | x :: l, i, ha, 0, _ => by
    rw [allFrom, Bool.and_eq_true] at ha
    exact ha.1
  | x :: l, i, ha, j + 1, h => by
    rw [allFrom, Bool.and_eq_true] at ha
    have := all_at l (i + 1) ha.2 j (by simpa using h)
    rw [show i + (j + 1) = i + 1 + j by omega]
    exact this
theorem may_same (hs : List Bys) (ks : List (Option (List Bys))) (hl : ks.length = hs.length) : mayP hs ks = mayR hs ks := by
  unfold mayP mayR
  have hz : (hs.zip ks).length = hs.length := by rw [List.length_zip, hl, Nat.min_self]
  by_cases hu : hs.Nodup
  · rw [decide_eq_true hu, Bool.true_and]
    congr 1
    refine allFrom_congr ks (hs.zip ks) 0 (by rw [hz, hl]) fun j hj hj' => ?_
    rw [List.getElem_zip, Nat.zero_add]
    exact (ok_iff hs (by omega) _ ((unlike_iff hs).1 hu j (by omega))).symm
  · rw [decide_eq_false hu, Bool.false_and, Bool.false_and]
    cases hr : allFrom (refOk hs) 0 (hs.zip ks) with
    | false => rw [Bool.and_false]
    | true =>
      refine absurd ((unlike_iff hs).2 fun i hi => ?_) hu
      have := all_at _ _ hr i (by rw [hz]; exact hi)
      rw [List.getElem_zip, Nat.zero_add] at this
      unfold refOk at this
      split at this
      · exact absurd this Bool.false_ne_true
      · exact of_decide_eq_true (Bool.and_eq_true _ _ ▸ this : _ ∧ _).1
end Go.Proofs.YtdkonngkbbgcgaaGreatDoor
