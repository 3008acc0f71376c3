/- Plain law: a wider pattern tells more. No program in sight; no condition. -/
import Derived.Test.YtndlmdpljciilaaDoorSpl
namespace Go.Eng.Pc
theorem glue_append (p : Bs) {l : List Bs} (h : l ≠ []) (r : List Bs) : glue p (l ++ r) = glue p l ++ r := by
  cases l with
  | nil => exact absurd rfl h
  | cons a t => rfl
theorem spl_mid (B X : Bs) : spl (B ++ 47 :: X) = spl B ++ spl X := by
  induction B with
  | nil => rw [List.nil_append, spl_slash rfl]; rfl
  | cons c B ih =>
    by_cases hc : (c == 47) = true
    · rw [List.cons_append, spl_slash hc, spl_slash hc, ih]; rfl
    · have hc' : (c == 47) = false := by simpa using hc
      rw [List.cons_append, spl_other hc', spl_other hc', ih, glue_append _ (spl_ne B)]
theorem spl_pre (p X : Bs) (hp : ∀ c ∈ p, (c == 47) = false) : spl (p ++ X) = glue p (spl X) := by
  induction p with
  | nil => rw [List.nil_append, glue_nil (spl_ne X)]
  | cons c p ih => rw [List.cons_append, spl_other (hp c (by simp)), ih (fun d hd => hp d (by simp [hd])), glue_glue]; rfl
theorem last_slash (A : Bs) : (∀ c ∈ A, (c == 47) = false) ∨ ∃ B p, A = B ++ 47 :: p ∧ ∀ c ∈ p, (c == 47) = false := by
  induction A with
  | nil => exact .inl fun _ h => nomatch h
  | cons c A ih =>
    rcases ih with h | ⟨B, p, h1, h2⟩
    · by_cases hc : (c == 47) = true
      · exact .inr ⟨[], A, by rw [show c = 47 by simpa using hc]; rfl, h⟩
      · refine .inl fun d hd => ?_
        rcases List.mem_cons.1 hd with rfl | hd
        · simpa using hc
        · exact h d hd
    · exact .inr ⟨c :: B, p, by rw [h1]; rfl, h2⟩
/-- The pieces of a text in two halves. -/
theorem spl_halves (A : Bs) : ∃ (I : List Bs) (p : Bs), (p = A ∨ ∃ B, A = B ++ 47 :: p) ∧ ∀ X, spl (A ++ X) = I ++ glue p (spl X) := by
  rcases last_slash A with h | ⟨B, p, rfl, h⟩
  · exact ⟨[], A, .inl rfl, fun X => by rw [spl_pre A X h]; rfl⟩
  · refine ⟨spl B, p, .inr ⟨B, rfl⟩, fun X => ?_⟩
    rw [List.append_assoc, List.cons_append, spl_mid, spl_pre p X h]
theorem spl_head {R : Bs} {x : UInt8} {h' : Bs} {t : List Bs} (h : spl R = (x :: h') :: t) : ∃ R', R = x :: R' := by
  cases R with
  | nil => simp [spl] at h
  | cons e R =>
    by_cases hc : (e == 47) = true
    · rw [spl_slash hc] at h; simp at h
    · rw [spl_other (by simpa using hc)] at h
      cases hs : spl R with
      | nil => exact absurd hs (spl_ne R)
      | cons a b =>
        rw [hs] at h
        simp [glue] at h
        exact ⟨R, by rw [h.1.1]⟩
/-! what is told -/
theorem suf_mono {f g : Bs → Bool} (h : ∀ n, f n = true → g n = true) (n : Bs) (hs : suf f n = true) : suf g n = true := by
  obtain ⟨k, hk, h2⟩ := (suf_iff _ _).1 hs
  exact (suf_iff _ _).2 ⟨k, hk, h _ h2⟩
theorem pm_mono {X Y : Bs} (h : ∀ n, pm X n = true → pm Y n = true) (p : Bs) : ∀ n, pm (p ++ X) n = true → pm (p ++ Y) n = true := by
  induction p with
  | nil => exact h
  | cons c p ih =>
    intro n hn
    by_cases hc : c = 42
    · subst hc
      rw [List.cons_append, pm_star] at hn ⊢
      exact suf_mono ih n hn
    · have hc' : (c == 42) = false := by simpa using hc
      cases n with
      | nil => rw [List.cons_append, pm_end hc'] at hn; cases hn
      | cons d n =>
        rw [List.cons_append, pm_lit hc', Bool.and_eq_true] at hn ⊢
        exact ⟨hn.1, ih n hn.2⟩
theorem pm_any {c d : UInt8} (hc : (c == 42) = false) (hd : d = 63 ∨ d = 42) (h : Bs) : ∀ n, pm (c :: h) n = true → pm (d :: h) n = true := by
  intro n hn
  cases n with
  | nil => rw [pm_end hc] at hn; cases hn
  | cons e n =>
    rw [pm_lit hc, Bool.and_eq_true] at hn
    rcases hd with rfl | rfl
    · rw [pm_lit rfl, hn.2]; rfl
    · rw [pm_star, suf_iff]
      exact ⟨1, by simp, by simpa using hn.2⟩
theorem sufs_mono {f g : List Bs → Bool} (h : ∀ n, f n = true → g n = true) (n : List Bs) (hs : sufs f n = true) : sufs g n = true := by
  obtain ⟨k, hk, h2⟩ := (sufs_iff _ _).1 hs
  exact (sufs_iff _ _).2 ⟨k, hk, h _ h2⟩
theorem tel_mono {P Q : Bs} {t : List Bs} (h : ∀ ns, tel (P :: t) ns = true → tel (Q :: t) ns = true) (I : List Bs) : ∀ ns, tel (I ++ P :: t) ns = true → tel (I ++ Q :: t) ns = true := by
  induction I with
  | nil => exact h
  | cons a I ih =>
    intro ns hn
    by_cases ha : a = every
    · subst ha
      rw [List.cons_append, tel_every] at hn ⊢
      exact sufs_mono ih ns hn
    · have ha' : (a == every) = false := by simpa using ha
      cases ns with
      | nil => rw [List.cons_append, tel_none ha'] at hn; cases hn
      | cons d ns =>
        rw [List.cons_append, tel_one ha', Bool.and_eq_true] at hn ⊢
        exact ⟨hn.1, ih ns hn.2⟩
theorem tel_piece {P Q : Bs} {t : List Bs} (hP : (P == every) = false) (hQ : (Q == every) = false) (h : ∀ n, pm P n = true → pm Q n = true) : ∀ ns, tel (P :: t) ns = true → tel (Q :: t) ns = true := by
  intro ns hn
  cases ns with
  | nil => rw [tel_none hP] at hn; cases hn
  | cons d ns =>
    rw [tel_one hP, Bool.and_eq_true] at hn
    rw [tel_one hQ, h d hn.1, hn.2]; rfl
theorem tel_all {P : Bs} {t : List Bs} : ∀ ns, tel (P :: t) ns = true → tel (every :: t) ns = true := by
  intro ns hn
  by_cases hP : P = every
  · rwa [hP] at hn
  · have hP' : (P == every) = false := by simpa using hP
    cases ns with
    | nil => rw [tel_none hP'] at hn; cases hn
    | cons d ns =>
      rw [tel_one hP', Bool.and_eq_true] at hn
      rw [tel_every, sufs_iff]
      exact ⟨1, by simp, by simpa using hn.2⟩
/-- Are all pieces of a size that may be, and how many are there. -/
def mayB (l : List Bs) : Bool := l.all (fun p => decide (1 ≤ p.length ∧ p.length ≤ 32)) && decide (l.length ≤ 16)
/-- One byte of a pattern is another one. -/
theorem wide_one (A R : Bs) (c d : UInt8) (hc7 : (c == 47) = false) (hc : (c == 42) = false) (hd : d = 63 ∨ (d = 42 ∧ (∀ A', A ≠ A' ++ [42]) ∧ ∀ R', R ≠ 42 :: R')) (ns : List Bs) (hm : mayB (spl (A ++ c :: R)) = true) (ht : tel (spl (A ++ c :: R)) ns = true) : mayB (spl (A ++ d :: R)) = true ∧ tel (spl (A ++ d :: R)) ns = true := by
  obtain ⟨I, p, hp, hX⟩ := spl_halves A
  have hd7 : (d == 47) = false := by rcases hd with rfl | ⟨rfl, -⟩ <;> rfl
  cases hs : spl R with
  | nil => exact absurd hs (spl_ne R)
  | cons h t =>
    have e : ∀ x, (x == 47) = false → spl (A ++ x :: R) = I ++ (p ++ x :: h) :: t := fun x hx => by
      rw [hX, spl_other hx, hs, glue_glue]
      simp [glue]
    rw [e c hc7] at hm ht
    rw [e d hd7]
    refine ⟨?_, tel_mono (tel_piece ?_ ?_ (pm_mono (pm_any hc (hd.imp id fun h => h.1) h) p)) I ns ht⟩
    · simp only [mayB, List.all_append, List.all_cons, List.length_append, List.length_cons] at hm ⊢
      exact hm
    · refine beq_eq_false_iff_ne.2 fun h3 => ?_
      have : c ∈ every := by rw [← h3]; simp
      simp [every] at this
      rw [this] at hc; cases hc
    · refine beq_eq_false_iff_ne.2 fun h3 => ?_
      rcases hd with rfl | ⟨rfl, h4, h5⟩
      · have : (63 : UInt8) ∈ every := by rw [← h3]; simp
        simp [every] at this
      · unfold every at h3
        match p, h3 with
        | [], h3 =>
          simp at h3
          rw [h3] at hs
          obtain ⟨R', hR⟩ := spl_head hs
          exact h5 R' hR
        | [a], h3 =>
          simp at h3
          obtain ⟨rfl, -⟩ := h3
          rcases hp with hp | ⟨B, hp⟩
          · exact h4 [] hp.symm
          · exact h4 (B ++ [47]) (by rw [hp]; simp)
        | a :: b :: q, h3 => simp at h3
/-- A whole piece of a pattern is two stars. -/
theorem wide_all (A P R : Bs) (hA : A = [] ∨ ∃ A', A = A' ++ [47]) (hP : ∀ c ∈ P, (c == 47) = false) (hR : R = [] ∨ ∃ R', R = 47 :: R') (ns : List Bs) (hm : mayB (spl (A ++ (P ++ R))) = true) (ht : tel (spl (A ++ (P ++ R))) ns = true) : mayB (spl (A ++ (every ++ R))) = true ∧ tel (spl (A ++ (every ++ R))) ns = true := by
  have h1 : ∃ I : List Bs, ∀ X, spl (A ++ X) = I ++ spl X := by
    rcases hA with rfl | ⟨A', rfl⟩
    · exact ⟨[], fun X => rfl⟩
    · exact ⟨spl A', fun X => by rw [List.append_assoc]; exact spl_mid A' X⟩
  have h2 : ∃ t : List Bs, ∀ p : Bs, (∀ c ∈ p, (c == 47) = false) → spl (p ++ R) = p :: t := by
    rcases hR with rfl | ⟨R', rfl⟩
    · exact ⟨[], fun p hp => by rw [List.append_nil]; exact spl_none p hp⟩
    · exact ⟨spl R', fun p hp => spl_first p R' hp rfl⟩
  obtain ⟨I, hI⟩ := h1
  obtain ⟨t, h2⟩ := h2
  have he : ∀ c ∈ every, (c == 47) = false := by decide
  rw [hI, h2 P hP] at hm ht
  rw [hI, h2 every he]
  refine ⟨?_, tel_mono tel_all I ns ht⟩
  simp only [mayB, List.all_append, List.all_cons, List.length_append, List.length_cons, Bool.and_eq_true] at hm ⊢
  exact ⟨⟨hm.1.1, by decide, hm.1.2.2⟩, hm.2⟩
end Go.Eng.Pc
