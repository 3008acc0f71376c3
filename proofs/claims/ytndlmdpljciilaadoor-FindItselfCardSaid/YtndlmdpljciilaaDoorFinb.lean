/- Piece of package find tells what the plain law's way tells. -/
import Derived.Test.YtndlmdpljciilaaDoorFina
namespace Go.Proofs.YtndlmdpljciilaaDoor
open Go.RowKit Go.Eng Go.Eng.Pc
set_option maxRecDepth 100000
set_option maxHeartbeats 40000000
theorem drop_at (s : ByteArray) {k : Nat} (h : k < s.size) : s.data.toList.drop k = s[k] :: s.data.toList.drop (k + 1) := by
  rw [List.drop_eq_getElem_cons (by simpa using h)]
  simp
  rfl
theorem drop_all (s : ByteArray) {k : Nat} (h : s.size ≤ k) : s.data.toList.drop k = [] := List.drop_eq_nil_of_le (by simpa using h)
def sv : Option (Nat × Nat) → Int
  | none => -1
  | some (s, _) => s
def fv : Option (Nat × Nat) → Int
  | none => 0
  | some (_, f) => f
def s1 : Option (Nat × Nat) → Nat
  | none => 0
  | some (s, _) => s + 1
def f1 : Option (Nat × Nat) → Nat
  | none => 0
  | some (_, f) => f
def mu (A N n : Nat) (o : Option (Nat × Nat)) : Nat := (A + 1 - s1 o) * ((N + 2) * (N + 2)) + (N + 1 - f1 o) * (N + 2) + (N + 1 - n)
theorem mul_drop {a b k : Nat} (h : b + 1 ≤ a) : b * k + k ≤ a * k := by
  have := Nat.mul_le_mul_right k h
  rwa [Nat.succ_mul] at this
theorem mu_star {A N n p : Nat} {o : Option (Nat × Nat)} (hs : s1 o ≤ p) (hp : p < A + 1) (hf : f1 o ≤ n) (hn : n < N) : mu A N n (some (p, n)) < mu A N n o := by
  unfold mu
  rw [show s1 (some (p, n)) = p + 1 from rfl, show f1 (some (p, n)) = n from rfl]
  have h1 := mul_drop (a := A + 1 - s1 o) (b := A + 1 - (p + 1)) (k := (N + 2) * (N + 2)) (by omega)
  have h2 : (N + 1 - n) * (N + 2) ≤ (N + 1 - f1 o) * (N + 2) := Nat.mul_le_mul_right _ (by omega)
  have h3 : 0 < (N + 2) * (N + 2) := Nat.mul_pos (by omega) (by omega)
  omega
theorem mu_lit {A N n : Nat} {o : Option (Nat × Nat)} (hn : n < N) : mu A N (n + 1) o < mu A N n o := by
  unfold mu
  omega
theorem mu_back {A N n s f : Nat} (hf : f < N) : mu A N (f + 1) (some (s, f + 1)) < mu A N n (some (s, f)) := by
  unfold mu
  simp only [s1, f1]
  have h2 := mul_drop (a := N + 1 - f) (b := N + 1 - (f + 1)) (k := N + 2) (by omega)
  omega
theorem beq_byte (c d : UInt8) : (((c.toNat : Nat) : Int) == ((d.toNat : Nat) : Int)) = (c == d) := by
  rw [Bool.eq_iff_iff]
  simp only [beq_iff_eq, Int.natCast_inj]
  exact UInt8.toNat_inj
theorem beq_42 (c : UInt8) : (((c.toNat : Nat) : Int) == 42) = (c == 42) := beq_byte c 42
theorem beq_63 (c : UInt8) : (((c.toNat : Nat) : Int) == 63) = (c == 63) := beq_byte c 63
theorem inv_s1 {P T : List UInt8} {p n : Nat} {o : Option (Nat × Nat)} (h : Inv P T p n o) : s1 o ≤ p ∧ f1 o ≤ n := by
  cases h with
  | bare h => exact ⟨Nat.zero_le _, Nat.zero_le _⟩
  | starred s f q hq hp hn hpl hl h => simp only [s1, f1]; omega
def baOf (l : List UInt8) : ByteArray := ⟨l.toArray⟩
theorem baOf_list (s : ByteArray) : baOf s.data.toList = s := by cases s; rfl
theorem baOf_toList (l : List UInt8) : (baOf l).data.toList = l := by simp [baOf]
def stripL (c : UInt8) (l : List UInt8) : List UInt8 := l.dropWhile (· == c)
def stripR (c : UInt8) (l : List UInt8) : List UInt8 := (l.reverse.dropWhile (· == c)).reverse
theorem size_list (s : ByteArray) : s.data.toList.length = s.size := by simp
theorem list_head (s : ByteArray) (h : 0 < s.size) : s.data.toList = s[0] :: s.data.toList.drop 1 := by
  have := drop_at s h
  simpa using this
theorem list_last (s : ByteArray) (h : 0 < s.size) : s.data.toList = s.data.toList.take (s.size - 1) ++ [s[s.size - 1]] := by
  conv => lhs; rw [← List.take_append_drop (s.size - 1) s.data.toList]
  rw [drop_at s (show s.size - 1 < s.size by omega), show s.size - 1 + 1 = s.size by omega, drop_all s (Nat.le_refl _)]
theorem take_extract (s : ByteArray) (i : Nat) : (s.extract 0 i).data.toList = s.data.toList.take i := by
  simp [ByteArray.data_extract, Array.toList_extract, List.extract_eq_take_drop]
theorem trimL_calls (s : ByteArray) (c : UInt8) (_hs : s.size < 9223372036854775807) (w : World) : Pu Tryd.prog 30 #[.string s, .int .u8 (c.toNat : Nat)] w (.string (baOf (stripL c s.data.toList))) := by
  refine pu_of [_, _] Tryd.func30 rfl rfl ?_
  simp only [argSlots, Nat.reduceAdd]
  (repeat refine s_ ?_)
  refine t_for (α := ByteArray) (fun t => [(0, .string t), (1, .int .u8 (c.toNat : Nat))]) (fun t => t.size ≤ s.size ∧ stripL c t.data.toList = stripL c s.data.toList) (fun _ => []) (fun t => t.size) s ⟨rfl, rfl, trivial⟩ ⟨Nat.le_refl _, rfl⟩ (fun _ h => h) fun t ⟨h1, h2⟩ => ?_
  by_cases h0 : 0 < t.size
  · (repeat refine s_ ?_)
    refine t_cond _ rfl rfl (fun hc => ?_) (fun hc => ?_)
    · rw [beq_byte] at hc
      (repeat refine s_ ?_)
      refine x_round (t.extract 1 t.size) ⟨rfl, rfl, trivial⟩ ⟨by simp; omega, ?_⟩ (fun _ h => h) (by simp; omega)
      rw [← h2, drop_extract]
      conv => rhs; rw [list_head t h0]
      simp [stripL, hc]
    · rw [beq_byte] at hc
      (repeat refine s_ ?_)
      refine x_pu rfl rfl ?_
      rw [← h2]
      have : stripL c t.data.toList = t.data.toList := by
        conv => lhs; rw [list_head t h0]
        rw [list_head t h0]
        simp [stripL, hc]
      rw [this, baOf_list]
  · (repeat refine s_ ?_)
    refine x_pu rfl rfl ?_
    rw [← h2]
    have : t.data.toList = [] := by rw [← List.length_eq_zero_iff, size_list]; omega
    rw [this, ← baOf_list t, this]; rfl
theorem trimR_calls (s : ByteArray) (c : UInt8) (hs : s.size < 9223372036854775807) (w : World) : Pu Tryd.prog 31 #[.string s, .int .u8 (c.toNat : Nat)] w (.string (baOf (stripR c s.data.toList))) := by
  refine pu_of [_, _] Tryd.func31 rfl rfl ?_
  simp only [argSlots, Nat.reduceAdd]
  (repeat refine s_ ?_)
  refine t_for (α := ByteArray) (fun t => [(0, .string t), (1, .int .u8 (c.toNat : Nat))]) (fun t => t.size ≤ s.size ∧ stripR c t.data.toList = stripR c s.data.toList) (fun _ => []) (fun t => t.size) s ⟨rfl, rfl, trivial⟩ ⟨Nat.le_refl _, rfl⟩ (fun _ h => h) fun t ⟨h1, h2⟩ => ?_
  by_cases h0 : 0 < t.size
  · (repeat refine s_ ?_)
    refine t_cond _ rfl rfl (fun hc => ?_) (fun hc => ?_)
    · rw [beq_byte] at hc
      (repeat refine s_ ?_)
      refine x_round (t.extract 0 (t.size - 1)) ⟨rfl, rfl, trivial⟩ ⟨by simp; omega, ?_⟩ (fun _ h => h) (by simp; omega)
      rw [← h2, take_extract]
      conv => rhs; rw [list_last t h0]
      simp [stripR, hc]
    · rw [beq_byte] at hc
      (repeat refine s_ ?_)
      refine x_pu rfl rfl ?_
      rw [← h2]
      have : stripR c t.data.toList = t.data.toList := by
        conv => lhs; rw [list_last t h0]
        conv => rhs; rw [list_last t h0]
        simp [stripR, hc]
      rw [this, baOf_list]
  · (repeat refine s_ ?_)
    refine x_pu rfl rfl ?_
    rw [← h2]
    have : t.data.toList = [] := by rw [← List.length_eq_zero_iff, size_list]; omega
    rw [this, ← baOf_list t, this]; rfl
theorem dropW_nil (p : UInt8 → Bool) : ∀ l : List UInt8, l.dropWhile p = [] ↔ ∀ x ∈ l, p x = true
  | [] => by simp
  | x :: l => by
    have ih := dropW_nil p l
    by_cases h : p x = true
    · simp [h, ih]
    · simp [h]
theorem stripR_nil (c : UInt8) (l : List UInt8) : stripR c l = [] ↔ ∀ x ∈ l, x = c := by
  simp only [stripR, List.reverse_eq_nil_iff, dropW_nil]
  simp
theorem stripR_sub (c : UInt8) (l : List UInt8) : ∃ r, l = stripR c l ++ r ∧ ∀ x ∈ r, x = c := by
  refine ⟨(l.reverse.takeWhile (· == c)).reverse, ?_, fun x hx => ?_⟩
  · rw [stripR, ← List.reverse_append, List.takeWhile_append_dropWhile, List.reverse_reverse]
  · have hx' : x ∈ l.reverse.takeWhile (· == c) := by simpa using hx
    have : ∀ (l : List UInt8), x ∈ l.takeWhile (· == c) → x = c := by
      intro l
      induction l with
      | nil => simp
      | cons y l ih =>
        intro h
        by_cases hy : y = c
        · simp [hy] at h; rcases h with h | h
          · exact h
          · exact ih (by simpa [hy] using h)
        · simp [hy] at h
    exact this _ hx'
theorem stripR_le (c : UInt8) (l : List UInt8) : (stripR c l).length ≤ l.length := by
  obtain ⟨r, hr, -⟩ := stripR_sub c l
  conv => rhs; rw [hr]
  simp
theorem strip_star (c : UInt8) (l : List UInt8) : (stripL c (stripR c l) == []) = l.all (· == c) := by
  rw [Bool.eq_iff_iff]
  simp only [beq_iff_eq, stripL, dropW_nil, List.all_eq_true]
  constructor
  · intro h x hx
    obtain ⟨r, hr, h2⟩ := stripR_sub c l
    rw [hr] at hx
    rcases List.mem_append.1 hx with h3 | h3
    · exact h x h3
    · exact h2 x h3
  · intro h x hx
    obtain ⟨r, hr, h2⟩ := stripR_sub c l
    exact h x (by rw [hr]; simp [hx])
theorem trim_calls (s : ByteArray) (hs : s.size < 9223372036854775807) (w : World) : Pu Tryd.prog 22 #[.string s, .string ⟨#[42]⟩] w (.string (baOf (stripL 42 (stripR 42 s.data.toList)))) := by
  refine pu_of [_, _] Tryd.func22 rfl rfl ?_
  simp only [argSlots, Nat.reduceAdd]
  have h1 : ¬ ((⟨#[42]⟩ : ByteArray) = ⟨#[]⟩) := by decide
  have h2 : (⟨#[42]⟩ : ByteArray).size = 1 := rfl
  have h3 : (((⟨#[42]⟩ : ByteArray)[0]'(by decide)).toNat : Int) = 42 := rfl
  by_cases h0 : s = ⟨#[]⟩
  · subst h0
    (repeat refine s_ ?_)
    exact x_pu rfl rfl rfl
  · (repeat refine s_ ?_)
    refine t_drawp (by kernel_rfl) ?_
    (repeat refine d_ ?_)
    refine d_op 3 ⟨by kernel_rfl, by decide⟩ rfl rfl (o_pure rfl rfl rfl fun w _ => trimR_calls s 42 hs w) (fun _ _ h => h) fun _ => ?_
    (repeat refine d_ ?_)
    refine d_op 6 ⟨by kernel_rfl, by decide⟩ rfl rfl (o_pure rfl rfl rfl fun w _ => trimL_calls _ 42 (by rw [← size_list, baOf_toList]; have := stripR_le 42 s.data.toList; simp at this ⊢; omega) w) (fun _ _ h => h) fun _ => ?_
    (repeat refine d_ ?_)
    refine d_end (by kernel_rfl) ?_
    (repeat refine s_ ?_)
    exact x_pu rfl rfl (by rw [baOf_toList])
theorem piece_calls (P T : ByteArray) (hP : P.size < 9223372036854775807) (hT : T.size < 9223372036854775807) (w : World) : Pu Tryd.prog 12 #[.string P, .string T] w (.bool (pm P.data.toList T.data.toList)) := by
  refine pu_of [_, _] Tryd.func12 rfl rfl ?_
  simp only [argSlots, Nat.reduceAdd]
  (repeat refine s_ ?_)
  refine t_for (α := Nat × Nat × Option (Nat × Nat)) (fun y => [(0, .string P), (1, .string T), (5, .int .i64 y.1), (6, .int .i64 y.2.1), (7, .int .i64 (sv y.2.2)), (8, .int .i64 (fv y.2.2))])
    (fun y => y.1 ≤ P.size ∧ y.2.1 ≤ T.size ∧ Inv P.data.toList T.data.toList y.1 y.2.1 y.2.2) (fun _ => []) (fun y => mu P.size T.size y.2.1 y.2.2) (0, 0, none) ⟨rfl, rfl, rfl, rfl, rfl, rfl, trivial⟩ ⟨Nat.zero_le _, Nat.zero_le _, Inv.start _ _⟩ (fun _ h => h) fun ⟨p, n, o⟩ ⟨hp, hn, hI⟩ => ?_
  simp only at hp hn hI ⊢
  (repeat refine s_ ?_)
  refine t_cond _ rfl rfl (fun h => ?_) (fun h => ?_)
  · have hn' : n < T.size := by simp at h; omega
    clear h
    by_cases hp' : p < P.size
    · have hPd := drop_at P hp'
      have hTd := drop_at T hn'
      by_cases h42 : (P[p].toNat : Int) = 42
      · have hc : P[p] = 42 := by have := beq_42 P[p]; rw [beq_t h42] at this; simpa using this.symm
        (repeat refine s_ ?_)
        exact x_round (p + 1, n, some (p, n)) ⟨rfl, rfl, rfl, rfl, rfl, rfl, trivial⟩ ⟨hp', hn, hI.onStar (by rw [hPd, hc])⟩ (fun _ h => h) (mu_star (inv_s1 hI).1 (by omega) (inv_s1 hI).2 hn')
      · have hc : (P[p] == 42) = false := by rw [← beq_42, beq_f h42]
        have lit : (P[p] == 63 || P[p] == T[n]) = true → Inv P.data.toList T.data.toList (p + 1) (n + 1) o := fun hm => hI.onLit hPd hTd hc hm
        by_cases h6 : (P[p].toNat : Int) = 63
        · have := lit (by rw [← beq_63, beq_t h6]; rfl)
          (repeat refine s_ ?_)
          (refine t_drawp (by kernel_rfl) ?_; (repeat refine d_ ?_); refine d_end (by kernel_rfl) ?_)
          (repeat refine s_ ?_)
          exact x_round (p + 1, n + 1, o) ⟨rfl, rfl, rfl, rfl, rfl, rfl, trivial⟩ ⟨hp', hn', this⟩ (fun _ h => h) (mu_lit hn')
        · by_cases h7 : (P[p].toNat : Int) = (T[n].toNat : Int)
          · have := lit (by rw [← beq_63, ← beq_byte, beq_t h7, Bool.or_true])
            (repeat refine s_ ?_)
            (refine t_drawp (by kernel_rfl) ?_; (repeat refine d_ ?_); refine d_end (by kernel_rfl) ?_)
            (repeat refine s_ ?_)
            exact x_round (p + 1, n + 1, o) ⟨rfl, rfl, rfl, rfl, rfl, rfl, trivial⟩ ⟨hp', hn', this⟩ (fun _ h => h) (mu_lit hn')
          · have hb := bad_lit hPd hTd hc (by rw [← beq_63, ← beq_byte, beq_f h6, beq_f h7]; rfl)
            match o, hI with
            | none, hI =>
              have hs1 : sv none = -1 := rfl
              (repeat refine s_ ?_)
              (refine t_drawp (by kernel_rfl) ?_; (repeat refine d_ ?_); refine d_end (by kernel_rfl) ?_)
              (repeat refine s_ ?_)
              exact x_pu rfl rfl (by rw [hI.no hb])
            | some (s, f), hI =>
              have hsf := inv_s1 hI
              simp only [s1, f1] at hsf
              have hs1 : (sv (some (s, f))) = ((s : Nat) : Int) := rfl
              have hf1 : (fv (some (s, f))) = ((f : Nat) : Int) := rfl
              rw [hs1, hf1]
              (repeat refine s_ ?_)
              (refine t_drawp (by kernel_rfl) ?_; (repeat refine d_ ?_); refine d_end (by kernel_rfl) ?_)
              (repeat refine s_ ?_)
              exact x_round (s + 1, f + 1, some (s, f + 1)) ⟨rfl, rfl, rfl, rfl, rfl, rfl, trivial⟩ ⟨show s + 1 ≤ _ by omega, show f + 1 ≤ _ by omega, hI.back (by simpa using hn') hb⟩ (fun _ h => h) (mu_back (by omega))
    · have hb := bad_end (drop_all P (k := p) (by omega)) (drop_at T hn')
      match o, hI with
      | none, hI =>
        have hs1 : sv none = -1 := rfl
        (repeat refine s_ ?_)
        (refine t_drawp (by kernel_rfl) ?_; (repeat refine d_ ?_); refine d_end (by kernel_rfl) ?_)
        (repeat refine s_ ?_)
        exact x_pu rfl rfl (by rw [hI.no hb])
      | some (s, f), hI =>
        have hsf := inv_s1 hI
        simp only [s1, f1] at hsf
        have hs1 : (sv (some (s, f))) = ((s : Nat) : Int) := rfl
        have hf1 : (fv (some (s, f))) = ((f : Nat) : Int) := rfl
        rw [hs1, hf1]
        (repeat refine s_ ?_)
        (refine t_drawp (by kernel_rfl) ?_; (repeat refine d_ ?_); refine d_end (by kernel_rfl) ?_)
        (repeat refine s_ ?_)
        exact x_round (s + 1, f + 1, some (s, f + 1)) ⟨rfl, rfl, rfl, rfl, rfl, rfl, trivial⟩ ⟨show s + 1 ≤ _ by omega, show f + 1 ≤ _ by omega, hI.back (by simpa using hn') hb⟩ (fun _ h => h) (mu_back (by omega))
  · obtain rfl : n = T.size := by simp at h; omega
    (repeat refine s_ ?_)
    refine l_pure rfl rfl rfl (fun w _ => trim_calls _ (by simp; omega) w) ?_
    (repeat refine s_ ?_)
    refine x_pu rfl rfl ?_
    rw [hI.done (by simp), seq_list, drop_extract, baOf_toList, ← strip_star]
end Go.Proofs.YtndlmdpljciilaaDoor
