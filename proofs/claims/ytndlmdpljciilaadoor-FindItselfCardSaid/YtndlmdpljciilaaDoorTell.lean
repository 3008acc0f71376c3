/- Plain law: the rows of numbers of pieces tell what the recursive way of pieces and names tells. No program in sight; no condition. -/
import Derived.Test.YtndlmdpljciilaaDoorPiece
namespace Go.Eng.Pc
abbrev Bs := List UInt8
def every : Bs := [42, 42]
def sufs (f : List Bs → Bool) : List Bs → Bool
  | [] => f []
  | d :: n => f (d :: n) || sufs f n
def tel : List Bs → List Bs → Bool
  | [], n => n.isEmpty
  | p :: ps, n => bif p == every then sufs (tel ps) n else match n with
    | [] => false
    | d :: n' => pm p d && tel ps n'
theorem sufs_iff (f : List Bs → Bool) : ∀ n : List Bs, sufs f n = true ↔ ∃ k, k ≤ n.length ∧ f (n.drop k) = true
  | [] => ⟨fun h => ⟨0, Nat.le_refl _, h⟩, fun ⟨k, _, h⟩ => by simpa [sufs] using h⟩
  | d :: n => by
    simp only [sufs, Bool.or_eq_true, sufs_iff f n]
    constructor
    · rintro (h | ⟨k, hk, h⟩)
      · exact ⟨0, Nat.zero_le _, h⟩
      · exact ⟨k + 1, by simpa using hk, h⟩
    · rintro ⟨k, hk, h⟩
      cases k with
      | zero => exact .inl h
      | succ k => exact .inr ⟨k, by simpa using hk, h⟩
theorem tel_every (ps n : List Bs) : tel (every :: ps) n = sufs (tel ps) n := by simp [tel]
theorem tel_every_cons (ps : List Bs) (d : Bs) (n : List Bs) : tel (every :: ps) (d :: n) = (tel ps (d :: n) || tel (every :: ps) n) := by rw [tel_every, tel_every]; rfl
theorem tel_one {p : Bs} (h : (p == every) = false) (ps : List Bs) (d : Bs) (n : List Bs) : tel (p :: ps) (d :: n) = (pm p d && tel ps n) := by simp [tel, h]
theorem tel_none {p : Bs} (h : (p == every) = false) (ps : List Bs) : tel (p :: ps) [] = false := by simp [tel, h]
/-- A row: which numbers of pieces are told. -/
abbrev Row := Nat → Bool
def up (r : Row) (i : Nat) : Row := fun k => if k = i then true else r k
theorem up_same (r : Row) (i : Nat) : up r i i = true := by simp [up]
theorem up_or (r : Row) (i k : Nat) : up r i k = (decide (k = i) || r k) := by unfold up; split <;> simp_all
/-- What is told from a row on. -/
def Can (l : List Bs) (r : Row) (ns : List Bs) : Prop := ∃ i, i ≤ l.length ∧ r i = true ∧ tel (l.drop i) ns = true
def Closed (l : List Bs) (r : Row) : Prop := ∀ i (h : i < l.length), l[i] = every → r i = true → r (i + 1) = true
/-- .. for the first 'k' pieces. -/
def ClosedTo (l : List Bs) (r : Row) (k : Nat) : Prop := ∀ i (h : i < l.length), i < k → l[i] = every → r i = true → r (i + 1) = true
theorem Can.start (l ns : List Bs) : tel l ns = true ↔ Can l (fun i => decide (i = 0)) ns := by
  constructor
  · intro h; exact ⟨0, Nat.zero_le _, rfl, by simpa using h⟩
  · rintro ⟨i, -, h, h2⟩
    obtain rfl : i = 0 := by simpa using h
    simpa using h2
/-- A step of skips. -/
def isEv (l : List Bs) (k : Nat) : Bool := match l[k]? with | some p => p == every | none => false
theorem isEv_eq {l : List Bs} {k : Nat} (h : k < l.length) : isEv l k = (l[k] == every) := by simp [isEv, h]
theorem isEv_spec {l : List Bs} {k : Nat} (h : isEv l k = true) : ∃ hk : k < l.length, l[k] = every := by
  unfold isEv at h
  split at h
  · rename_i p hp
    obtain ⟨hk, rfl⟩ := List.getElem?_eq_some_iff.1 hp
    exact ⟨hk, by simpa using h⟩
  · cases h
def skip1 (l : List Bs) (r : Row) (k : Nat) : Row := if isEv l k && r k then up r (k + 1) else r
theorem drop_cons {l : List Bs} {i : Nat} (h : i < l.length) : l.drop i = l[i] :: l.drop (i + 1) := List.drop_eq_getElem_cons h
theorem skip1_can {l : List Bs} {r : Row} {k : Nat} {ns : List Bs} : Can l (skip1 l r k) ns ↔ Can l r ns := by
  unfold skip1
  split
  · rename_i h
    rw [Bool.and_eq_true] at h
    obtain ⟨h1, h2⟩ := h
    obtain ⟨hk, hp'⟩ := isEv_spec h1
    constructor
    · rintro ⟨i, hi, hr, ht⟩
      rw [up_or] at hr
      by_cases e : i = k + 1
      · subst e
        refine ⟨k, by omega, h2, ?_⟩
        rw [drop_cons hk, hp', tel_every, sufs_iff]
        exact ⟨0, Nat.zero_le _, by simpa using ht⟩
      · exact ⟨i, hi, by simpa [e] using hr, ht⟩
    · rintro ⟨i, hi, hr, ht⟩
      exact ⟨i, hi, by simp [up_or, hr], ht⟩
  · exact .rfl
theorem skip1_closed {l : List Bs} {r : Row} {k : Nat} (h : ClosedTo l r k) : ClosedTo l (skip1 l r k) (k + 1) := by
  intro i hi hik he hr
  have h1 : isEv l i = true := by rw [isEv_eq hi, he]; rfl
  unfold skip1 at hr ⊢
  by_cases e : i = k
  · subst e
    rw [h1, Bool.true_and] at hr ⊢
    split at hr
    · rename_i h2; rw [if_pos h2]; simp [up_or]
    · rename_i h2; exact absurd hr h2
  · have hik' : i < k := by omega
    split at hr
    · rename_i h2
      rw [if_pos h2]
      rw [up_or] at hr ⊢
      have : r i = true := by
        rcases Bool.or_eq_true_iff.1 hr with h3 | h3
        · simp at h3; omega
        · exact h3
      simp [h i hi hik' he this]
    · rename_i h2
      rw [if_neg h2]
      exact h i hi hik' he hr
def skips (l : List Bs) (r : Row) : Nat → Row
  | 0 => r
  | k + 1 => skip1 l (skips l r k) k
theorem skips_can {l : List Bs} {r : Row} {ns : List Bs} : ∀ k, Can l (skips l r k) ns ↔ Can l r ns
  | 0 => .rfl
  | k + 1 => skip1_can.trans (skips_can k)
theorem skips_closed {l : List Bs} {r : Row} : ∀ k, ClosedTo l (skips l r k) k
  | 0 => fun _ _ h => absurd h (Nat.not_lt_zero _)
  | k + 1 => skip1_closed (skips_closed k)
theorem skips_all {l : List Bs} {r : Row} : Closed l (skips l r l.length) := fun i hi => skips_closed l.length i hi hi
/-- A step of a name. -/
def step1 (l : List Bs) (r : Row) (n : Bs) (nx : Row) (k : Nat) : Row := match l[k]? with
  | some p => if r k then (if p == every then up nx k else if pm p n then up nx (k + 1) else nx) else nx
  | none => nx
def steps (l : List Bs) (r : Row) (n : Bs) : Nat → Row
  | 0 => fun _ => false
  | k + 1 => step1 l r n (steps l r n k) k
theorem steps_iff {l : List Bs} {r : Row} {n : Bs} : ∀ (k j : Nat), k ≤ l.length → (steps l r n k j = true ↔ ∃ i, i < k ∧ ∃ h : i < l.length, r i = true ∧ (l[i] = every ∧ j = i ∨ l[i] ≠ every ∧ pm l[i] n = true ∧ j = i + 1))
  | 0, j, _ => by simp [steps]
  | k + 1, j, hk => by
    have ih := steps_iff (l := l) (r := r) (n := n) k j (by omega)
    have hk' : k < l.length := by omega
    simp only [steps, step1, List.getElem?_eq_getElem hk']
    have key : (∃ i, i < k + 1 ∧ ∃ h : i < l.length, r i = true ∧ (l[i] = every ∧ j = i ∨ l[i] ≠ every ∧ pm l[i] n = true ∧ j = i + 1)) ↔ ((∃ i, i < k ∧ ∃ h : i < l.length, r i = true ∧ (l[i] = every ∧ j = i ∨ l[i] ≠ every ∧ pm l[i] n = true ∧ j = i + 1)) ∨ (r k = true ∧ (l[k] = every ∧ j = k ∨ l[k] ≠ every ∧ pm l[k] n = true ∧ j = k + 1))) := by
      constructor
      · rintro ⟨i, hi, h, h2⟩
        by_cases e : i = k
        · subst e; exact .inr h2
        · exact .inl ⟨i, by omega, h, h2⟩
      · rintro (⟨i, hi, h, h2⟩ | h2)
        · exact ⟨i, by omega, h, h2⟩
        · exact ⟨k, by omega, hk', h2⟩
    rw [key, ← ih]
    by_cases hr : r k = true
    · rw [if_pos hr]
      by_cases he : l[k] = every
      · rw [if_pos (by simpa using he), up_or]
        simp [hr, he, or_comm]
      · rw [if_neg (by simpa using he)]
        by_cases hp : pm l[k] n = true
        · rw [if_pos hp, up_or]; simp [hr, he, hp, or_comm]
        · rw [if_neg hp]; simp [hr, he, hp]
    · rw [if_neg hr]; simp [hr]
theorem steps_can {l : List Bs} {r : Row} {n : Bs} {ns : List Bs} (hc : Closed l r) : Can l r (n :: ns) ↔ Can l (steps l r n l.length) ns := by
  constructor
  · rintro ⟨i, hi, hr, ht⟩
    have : ∀ d i, l.length - i = d → i ≤ l.length → r i = true → tel (l.drop i) (n :: ns) = true → Can l (steps l r n l.length) ns := by
      intro d
      induction d with
      | zero =>
        intro i hd hi hr ht
        obtain rfl : i = l.length := by omega
        simp [tel] at ht
      | succ d ih =>
        intro i hd hi hr ht
        have hlt : i < l.length := by omega
        rw [drop_cons hlt] at ht
        by_cases he : l[i] = every
        · rw [he, tel_every_cons, Bool.or_eq_true] at ht
          rcases ht with ht | ht
          · exact ih (i + 1) (by omega) hlt (hc i hlt he hr) ht
          · refine ⟨i, hi, (steps_iff _ _ (Nat.le_refl _)).2 ⟨i, hlt, hlt, hr, .inl ⟨he, rfl⟩⟩, ?_⟩
            rw [drop_cons hlt, he]; exact ht
        · rw [tel_one (by simpa using he), Bool.and_eq_true] at ht
          exact ⟨i + 1, hlt, (steps_iff _ _ (Nat.le_refl _)).2 ⟨i, hlt, hlt, hr, .inr ⟨he, ht.1, rfl⟩⟩, ht.2⟩
    exact this _ i rfl hi hr ht
  · rintro ⟨j, hj, hr, ht⟩
    obtain ⟨i, -, hlt, hri, h | h⟩ := (steps_iff _ _ (Nat.le_refl _)).1 hr
    · obtain ⟨he, rfl⟩ := h
      refine ⟨j, hj, hri, ?_⟩
      rw [drop_cons hlt, he] at ht ⊢
      rw [tel_every_cons, ht, Bool.or_true]
    · obtain ⟨he, hp, rfl⟩ := h
      refine ⟨i, by omega, hri, ?_⟩
      rw [drop_cons hlt, tel_one (by simpa using he), hp, ht]; rfl
theorem can_end {l : List Bs} {r : Row} (hc : Closed l r) : Can l r [] ↔ r l.length = true := by
  constructor
  · rintro ⟨i, hi, hr, ht⟩
    have : ∀ d i, l.length - i = d → i ≤ l.length → r i = true → tel (l.drop i) [] = true → r l.length = true := by
      intro d
      induction d with
      | zero =>
        intro i hd hi hr _
        obtain rfl : i = l.length := by omega
        exact hr
      | succ d ih =>
        intro i hd hi hr ht
        have hlt : i < l.length := by omega
        rw [drop_cons hlt] at ht
        by_cases he : l[i] = every
        · rw [he, tel_every] at ht
          exact ih (i + 1) (by omega) hlt (hc i hlt he hr) ht
        · rw [tel_none (by simpa using he)] at ht; cases ht
    exact this _ i rfl hi hr ht
  · intro hr
    exact ⟨_, Nat.le_refl _, hr, by simp [tel]⟩
/-- The row behind 'k' names. -/
def rowB (l ns : List Bs) : Nat → Row
  | 0 => skips l (fun i => decide (i = 0)) l.length
  | k + 1 => skips l (steps l (rowB l ns k) (ns.getD k []) l.length) l.length
theorem rowB_closed (l ns : List Bs) : ∀ k, Closed l (rowB l ns k)
  | 0 => skips_all
  | _ + 1 => skips_all
theorem rowB_can (l ns : List Bs) : ∀ k, k ≤ ns.length → (tel l ns = true ↔ Can l (rowB l ns k) (ns.drop k))
  | 0, _ => by rw [rowB, skips_can, List.drop_zero]; exact Can.start l ns
  | k + 1, h => by
    rw [rowB_can l ns k (by omega), rowB, skips_can, drop_cons h, steps_can (rowB_closed l ns k)]
    simp [List.getD_eq_getElem?_getD, List.getElem?_eq_getElem (show k < ns.length by omega)]
theorem rowB_tells (l ns : List Bs) : rowB l ns ns.length l.length = tel l ns := by
  have h := rowB_can l ns ns.length (Nat.le_refl _)
  rw [List.drop_length, can_end (rowB_closed l ns _)] at h
  exact (Bool.eq_iff_iff.2 h).symm
end Go.Eng.Pc
