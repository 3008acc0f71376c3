/- Plain law of the pieces with one star and ? : the greedy way with one step back tells what the recursive way tells. No program in sight; no condition. -/
namespace Go.Eng.Pc
def suf (f : List UInt8 → Bool) : List UInt8 → Bool
  | [] => f []
  | d :: n => f (d :: n) || suf f n
def pm : List UInt8 → List UInt8 → Bool
  | [], n => n.isEmpty
  | c :: p, n => bif c == 42 then suf (pm p) n else match n with
    | [] => false
    | d :: n' => (c == 63 || c == d) && pm p n'
def lit : List UInt8 → List UInt8 → Bool
  | [], _ => true
  | _ :: _, [] => false
  | c :: q, d :: n => (c == 63 || c == d) && lit q n
def plain (q : List UInt8) : Bool := q.all fun c => !(c == 42)
theorem suf_iff (f : List UInt8 → Bool) : ∀ n : List UInt8, suf f n = true ↔ ∃ k, k ≤ n.length ∧ f (n.drop k) = true
  | [] => ⟨fun h => ⟨0, Nat.le_refl _, h⟩, fun ⟨k, _, h⟩ => by simpa [suf] using h⟩
  | d :: n => by
    simp only [suf, Bool.or_eq_true, suf_iff f n]
    constructor
    · rintro (h | ⟨k, hk, h⟩)
      · exact ⟨0, Nat.zero_le _, h⟩
      · exact ⟨k + 1, by simpa using hk, h⟩
    · rintro ⟨k, hk, h⟩
      cases k with
      | zero => exact .inl h
      | succ k => exact .inr ⟨k, by simpa using hk, h⟩
theorem pm_star (p n : List UInt8) : pm (42 :: p) n = suf (pm p) n := by simp [pm]
theorem pm_lit {c : UInt8} (h : (c == 42) = false) (p : List UInt8) (d : UInt8) (n : List UInt8) : pm (c :: p) (d :: n) = ((c == 63 || c == d) && pm p n) := by simp [pm, h]
theorem pm_end {c : UInt8} (h : (c == 42) = false) (p : List UInt8) : pm (c :: p) [] = false := by simp [pm, h]
theorem pm_app : ∀ (q : List UInt8), plain q = true → ∀ (r n : List UInt8), pm (q ++ r) n = (lit q n && pm r (n.drop q.length))
  | [], _, r, n => by simp [lit]
  | c :: q, h, r, n => by
    simp only [plain, List.all_cons, Bool.and_eq_true, Bool.not_eq_true'] at h
    cases n with
    | nil => rw [List.cons_append, pm_end h.1]; simp [lit]
    | cons d n =>
      rw [List.cons_append, pm_lit h.1, pm_app q h.2 r n]
      simp [lit, Bool.and_assoc]
theorem lit_len : ∀ (q n : List UInt8), lit q n = true → q.length ≤ n.length
  | [], _, _ => Nat.zero_le _
  | _ :: _, [], h => by simp [lit] at h
  | c :: q, d :: n, h => by
    simp only [lit, Bool.and_eq_true] at h
    have := lit_len q n h.2
    simpa using this
theorem lit_snoc : ∀ (q n : List UInt8) (c d : UInt8) (m : List UInt8), lit q n = true → n.drop q.length = d :: m → (c == 63 || c == d) = true → lit (q ++ [c]) n = true
  | [], n, c, d, m, _, h, hc => by
    simp only [List.length_nil, List.drop_zero] at h
    subst h
    simpa [lit] using hc
  | b :: q, [], c, d, m, h, _, _ => by simp [lit] at h
  | b :: q, e :: n, c, d, m, h, h2, hc => by
    simp only [lit, Bool.and_eq_true] at h
    simp only [List.length_cons, List.drop_succ_cons] at h2
    simp only [List.cons_append, lit, Bool.and_eq_true]
    exact ⟨h.1, lit_snoc q n c d m h.2 h2 hc⟩
/-- What the loop keeps. -/
inductive Inv (P T : List UInt8) : Nat → Nat → Option (Nat × Nat) → Prop
  | bare (p n : Nat) (h : pm P T = pm (P.drop p) (T.drop n)) : Inv P T p n none
  | starred (p n s f : Nat) (q : List UInt8) (hq : P.drop (s + 1) = q ++ P.drop p) (hp : p = s + 1 + q.length) (hn : n = f + q.length) (hpl : plain q = true) (hl : lit q (T.drop f) = true) (h : pm P T = suf (pm (P.drop (s + 1))) (T.drop f)) : Inv P T p n (some (s, f))
theorem Inv.start (P T : List UInt8) : Inv P T 0 0 none := .bare 0 0 rfl
variable {P T : List UInt8} {p n : Nat} {o : Option (Nat × Nat)}
theorem star_on {q R : List UInt8} {S : List UInt8} (hpl : plain q = true) (hl : lit q S = true) : suf (pm (q ++ 42 :: R)) S = suf (pm R) (S.drop q.length) := by
  rw [Bool.eq_iff_iff, suf_iff, suf_iff]
  constructor
  · rintro ⟨k, hk, h⟩
    rw [pm_app q hpl, Bool.and_eq_true, pm_star, suf_iff] at h
    obtain ⟨h1, j, hj, h2⟩ := h
    have := lit_len _ _ h1
    simp only [List.length_drop, List.drop_drop] at *
    refine ⟨k + j, by omega, ?_⟩
    rw [show q.length + (k + j) = k + q.length + j by omega]
    simpa [Nat.add_comm, Nat.add_left_comm, Nat.add_assoc] using h2
  · rintro ⟨k, hk, h⟩
    refine ⟨0, Nat.zero_le _, ?_⟩
    rw [List.drop_zero, pm_app q hpl, hl, Bool.true_and, pm_star, suf_iff]
    exact ⟨k, hk, h⟩
theorem Inv.onStar (h : Inv P T p n o) {R : List UInt8} (hP : P.drop p = 42 :: R) : Inv P T (p + 1) n (some (p, n)) := by
  have hR : P.drop (p + 1) = R := by rw [← List.drop_drop, hP]; rfl
  refine .starred (p + 1) n p n [] (by simp) (by simp) (by simp) rfl rfl ?_
  rw [hR]
  cases h with
  | bare h => rw [h, hP, pm_star]
  | starred s f q hq hp hn hpl hl h => rw [h, hq, hP, star_on hpl hl, List.drop_drop, ← hn]
theorem Inv.onLit (h : Inv P T p n o) {R S : List UInt8} {c d : UInt8} (hP : P.drop p = c :: R) (hT : T.drop n = d :: S) (hc : (c == 42) = false) (hm : (c == 63 || c == d) = true) : Inv P T (p + 1) (n + 1) o := by
  have hR : P.drop (p + 1) = R := by rw [← List.drop_drop, hP]; rfl
  have hS : T.drop (n + 1) = S := by rw [← List.drop_drop, hT]; rfl
  cases h with
  | bare h => exact .bare _ _ (by rw [h, hP, hT, pm_lit hc, hm, Bool.true_and, hR, hS])
  | starred s f q hq hp hn hpl hl h =>
    refine .starred _ _ s f (q ++ [c]) (by rw [hq, hP, hR]; simp) (by simp; omega) (by simp; omega) ?_ ?_ h
    · simp only [plain, List.all_append, Bool.and_eq_true] at hpl ⊢
      exact ⟨hpl, by simp [hc]⟩
    · exact lit_snoc q _ c d S hl (by rw [List.drop_drop, ← hn, hT]) hm
/-- Nothing fits here. -/
def bad (P T : List UInt8) (p n : Nat) : Prop := pm (P.drop p) (T.drop n) = false
theorem Inv.back {s f : Nat} (h : Inv P T p n (some (s, f))) (hn : n < T.length) (hb : bad P T p n) : Inv P T (s + 1) (f + 1) (some (s, f + 1)) := by
  cases h with
  | starred _ _ q hq hp hn' hpl hl h =>
    refine .starred _ _ s (f + 1) [] (by simp) (by simp) (by simp) rfl rfl ?_
    rw [h]
    have hf : f < T.length := by omega
    rw [List.drop_eq_getElem_cons hf]
    simp only [suf]
    rw [← List.drop_eq_getElem_cons hf, hq, pm_app q hpl, List.drop_drop, ← hn', hb, Bool.and_false, Bool.false_or]
theorem Inv.no (h : Inv P T p n none) (hb : bad P T p n) : pm P T = false := by
  cases h with
  | bare h => rw [h]; exact hb
theorem bad_end {d : UInt8} {S : List UInt8} (hP : P.drop p = []) (hT : T.drop n = d :: S) : bad P T p n := by simp [bad, hP, hT, pm]
theorem bad_lit {c d : UInt8} {R S : List UInt8} (hP : P.drop p = c :: R) (hT : T.drop n = d :: S) (hc : (c == 42) = false) (hm : (c == 63 || c == d) = false) : bad P T p n := by simp only [bad, hP, hT, pm_lit hc, hm, Bool.false_and]
theorem pm_nil : ∀ R : List UInt8, pm R [] = R.all fun c => c == 42
  | [] => rfl
  | c :: R => by
    by_cases h : c = 42
    · subst h; rw [pm_star]; simp [suf, pm_nil R]
    · rw [pm_end (by simpa using h)]; simp [h]
theorem Inv.done (h : Inv P T p n o) (hn : n = T.length) : pm P T = (P.drop p).all fun c => c == 42 := by
  have hT : T.drop n = [] := by rw [hn]; simp
  rw [← pm_nil, ← hT]
  cases h with
  | bare h => exact h
  | starred s f q hq hp hn' hpl hl h =>
    rw [h, Bool.eq_iff_iff, suf_iff]
    constructor
    · rintro ⟨k, hk, h2⟩
      rw [hq, pm_app q hpl, Bool.and_eq_true] at h2
      have := lit_len _ _ h2.1
      simp only [List.length_drop] at this hk
      obtain rfl : k = 0 := by omega
      have h3 := h2.2
      rwa [List.drop_zero, List.drop_drop, ← hn'] at h3
    · intro h2
      refine ⟨0, Nat.zero_le _, ?_⟩
      rw [List.drop_zero, hq, pm_app q hpl, hl, Bool.true_and, List.drop_drop, ← hn']
      exact h2
end Go.Eng.Pc
