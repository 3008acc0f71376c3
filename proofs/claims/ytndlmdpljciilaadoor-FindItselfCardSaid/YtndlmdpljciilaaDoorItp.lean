/- Plain law: a path without stars and question marks tells itself alone among a good tree's entries; counts. No condition. -/
import Derived.Test.YtndlmdpljciilaaDoorFoi
namespace Go.Proofs.YtndlmdpljciilaaDoor
open Go.RowKit Go.Eng Go.Eng.Pc
set_option maxRecDepth 100000
theorem name_slash {s : ByteArray} (h : nameB s = true) : ∀ c ∈ s.data.toList, (c == 47) = false := fun c hc => by
  unfold nameB at h
  rw [Bool.and_eq_true] at h
  have := List.all_eq_true.1 h.1 c hc
  simp only [okc, decide_eq_true_eq] at this
  rw [beq_eq_false_iff_ne]
  rintro rfl
  exact this.2.2 rfl
theorem tailT_cons (t : ByteArray) (r : List ByteArray) : tailT (t :: r) = 47 :: (joinT (t :: r)).data.toList := by
  rw [joinT_data]; simp [tailT]
theorem spl_join : ∀ (s : ByteArray) (r : List ByteArray), (∀ x ∈ s :: r, nameB x = true) → spl (joinT (s :: r)).data.toList = bsOf (s :: r)
  | s, [], h => by
    rw [joinT_data]
    simp only [tailT, List.flatMap_nil, List.append_nil]
    rw [spl_none _ (name_slash (h s (by simp)))]; rfl
  | s, t :: r, h => by
    rw [joinT_data, tailT_cons, spl_first _ _ (name_slash (h s (by simp))) rfl, spl_join t r (fun x hx => h x (by simp [hx]))]
    rfl
theorem bsOf_inj {a b : List ByteArray} (h : bsOf a = bsOf b) : a = b := by
  have := congrArg baL h
  have e : ∀ L : List ByteArray, baL (bsOf L) = L := fun L => by
    simp only [baL, bsOf, List.map_map]
    exact (List.map_congr_left fun a _ => by simp).trans (List.map_id _)
  rwa [e, e] at this
theorem join_inj {a b : List ByteArray} (ha : a ≠ []) (hb : b ≠ []) (h1 : ∀ x ∈ a, nameB x = true) (h2 : ∀ x ∈ b, nameB x = true) (h : joinT a = joinT b) : a = b := by
  match a, b with
  | [], _ => exact absurd rfl ha
  | _ :: _, [] => exact absurd rfl hb
  | x :: r, y :: q =>
    have e1 := spl_join x r h1
    rw [h, spl_join y q h2] at e1
    exact (bsOf_inj e1).symm
/-! ### plain pieces -/
def plc (c : UInt8) : Bool := !(c == 42) && !(c == 63)
theorem pm_plain : ∀ (q n : Bs), q.all plc = true → pm q n = (q == n)
  | [], n, _ => by cases n <;> rfl
  | c :: q, n, h => by
    simp only [List.all_cons, Bool.and_eq_true, plc, Bool.not_eq_true'] at h
    obtain ⟨⟨h1, h2⟩, h3⟩ := h
    cases n with
    | nil => rw [pm_end h1]; rfl
    | cons d n => rw [pm_lit h1, h2, Bool.false_or, pm_plain q n (by simpa [plc] using h3)]; rfl
theorem plain_every {q : Bs} (h : q.all plc = true) : (q == every) = false := by
  rw [beq_eq_false_iff_ne]
  rintro rfl
  exact absurd h (by decide)
theorem tel_plain : ∀ (L ns : List Bs), (∀ q ∈ L, q.all plc = true) → tel L ns = (L == ns)
  | [], n, _ => by cases n <;> rfl
  | q :: L, [], h => by rw [tel_none (plain_every (h q (by simp)))]; rfl
  | q :: L, n :: ns, h => by rw [tel_one (plain_every (h q (by simp))), pm_plain _ _ (h q (by simp)), tel_plain L ns (fun q hq => h q (by simp [hq]))]; rfl
theorem plain_pieces : ∀ (s : ByteArray) (r : List ByteArray), (joinT (s :: r)).data.toList.all plc = true → ∀ q ∈ bsOf (s :: r), q.all plc = true
  | s, [], h, q, hq => by
    rw [joinT_data] at h
    simp only [tailT, List.flatMap_nil, List.append_nil] at h
    simp [bsOf] at hq
    subst hq
    exact h
  | s, t :: r, h, q, hq => by
    rw [joinT_data, tailT_cons, List.all_append, Bool.and_eq_true] at h
    simp only [bsOf, List.map_cons, List.mem_cons] at hq
    rcases hq with rfl | hq
    · exact h.1
    · refine plain_pieces t r ?_ q (by simpa [bsOf] using hq)
      have := h.2
      simp only [List.all_cons, Bool.and_eq_true] at this
      exact this.2
/-! ### the entries of a good tree -/
theorem ents_form : ∀ (D : Nat) (ks : List Tr) (ns : List ByteArray), Good D ks → (∀ s ∈ ns, nameB s = true) → ∀ x ∈ entsL ns ks, ∃ nm ∈ names ks, ∃ rest : List ByteArray, x.path = joinT (ns ++ nm :: rest) ∧ (∀ s ∈ ns ++ nm :: rest, nameB s = true) ∧ rest.length < D
  | D, [], ns, _, _, x, hx => by simp [entsL] at hx
  | 0, t :: r, ns, hg, _, x, hx => by have : t :: r = [] := hg; cases this
  | D + 1, t :: r, ns, hg, hn, x, hx => by
    obtain ⟨h1, h2⟩ := hg
    obtain ⟨t1, t2, t3⟩ := h2 t (by simp)
    have hn2 : ∀ s ∈ ns ++ [t.name], nameB s = true := fun s hs => by
      rcases List.mem_append.1 hs with hs | hs
      · exact hn s hs
      · rw [List.mem_singleton.1 hs]; exact t1
    rw [entsL, ents_eq] at hx
    rcases List.mem_append.1 hx with hx | hx
    · rcases List.mem_cons.1 hx with rfl | hx
      · exact ⟨t.name, by simp [names], [], rfl, hn2, by simp⟩
      · obtain ⟨nm, -, rest, e1, e2, e3⟩ := ents_form D t.kids (ns ++ [t.name]) t3 hn2 x hx
        exact ⟨t.name, by simp [names], nm :: rest, by rw [e1]; simp, by simpa using e2, by simp; omega⟩
    · obtain ⟨nm, h3, rest, e⟩ := ents_form (D + 1) r ns ⟨(List.pairwise_cons.1 h1).2, fun t ht => h2 t (by simp [ht])⟩ hn x hx
      exact ⟨nm, by simp only [names, List.map_cons, List.mem_cons]; exact .inr h3, rest, e⟩
theorem ents_apart : ∀ (D : Nat) (ks : List Tr) (ns : List ByteArray), Good D ks → (∀ s ∈ ns, nameB s = true) → (entsL ns ks).Pairwise fun x y => x.path ≠ y.path
  | D, [], ns, _, _ => by simp [entsL]
  | 0, t :: r, ns, hg, _ => by have : t :: r = [] := hg; cases this
  | D + 1, t :: r, ns, hg, hn => by
    obtain ⟨h1, h2⟩ := hg
    obtain ⟨t1, t2, t3⟩ := h2 t (by simp)
    have hn2 : ∀ s ∈ ns ++ [t.name], nameB s = true := fun s hs => by
      rcases List.mem_append.1 hs with hs | hs
      · exact hn s hs
      · rw [List.mem_singleton.1 hs]; exact t1
    have hr : Good (D + 1) r := ⟨(List.pairwise_cons.1 h1).2, fun t ht => h2 t (by simp [ht])⟩
    rw [entsL, ents_eq]
    refine List.pairwise_append.2 ⟨List.pairwise_cons.2 ⟨fun y hy e => ?_, ents_apart D t.kids _ t3 hn2⟩, ents_apart (D + 1) r ns hr hn, fun x hx y hy e => ?_⟩
    · obtain ⟨nm, -, rest, e1, e2, -⟩ := ents_form D t.kids (ns ++ [t.name]) t3 hn2 y hy
      rw [e1] at e
      have := congrArg List.length (join_inj (by simp) (by simp) hn2 e2 e)
      simp at this
    · obtain ⟨nm, h3, rest, e1, e2, -⟩ := ents_form (D + 1) r ns hr hn y hy
      have hlt : ltB t.name nm := (List.pairwise_cons.1 h1).1 nm h3
      have hx2 : ∃ rest', x.path = joinT (ns ++ t.name :: rest') ∧ ∀ s ∈ ns ++ t.name :: rest', nameB s = true := by
        rcases List.mem_cons.1 hx with rfl | hx
        · exact ⟨[], rfl, hn2⟩
        · obtain ⟨nm', -, rest', f1, f2, -⟩ := ents_form D t.kids (ns ++ [t.name]) t3 hn2 x hx
          exact ⟨nm' :: rest', by rw [f1]; simp, by simpa using f2⟩
      obtain ⟨rest', f1, f2⟩ := hx2
      rw [f1, e1] at e
      have h4 := join_inj (by simp) (by simp) f2 e2 e
      have h5 := (List.append_inj h4 rfl).2
      simp only [List.cons.injEq] at h5
      rw [h5.1] at hlt
      exact ltB_irrefl _ hlt
theorem filter_one : ∀ {E : List Ent} {i : Nat} (h : i < E.length), (E.Pairwise fun x y => x.path ≠ y.path) → E.filter (fun x => decide (x.path = E[i].path)) = [E[i]] := by
  intro E
  induction E with
  | nil => intro i h; simp at h
  | cons a E ih =>
    intro i h hp
    obtain ⟨h1, h2⟩ := List.pairwise_cons.1 hp
    cases i with
    | zero =>
      simp only [List.getElem_cons_zero, List.filter_cons, decide_true, if_true]
      congr 1
      refine List.filter_eq_nil_iff.2 fun x hx => ?_
      simpa using fun e => h1 x hx e.symm
    | succ i =>
      simp only [List.getElem_cons_succ]
      have hi : i < E.length := by simpa using h
      rw [List.filter_cons, if_neg (by simpa using h1 _ (List.getElem_mem hi))]
      exact ih hi h2
def most : Int := 9223372036854775807
/-- What a plain path of an entry finds. -/
theorem itself {L : List Ent} (ht : treeOk L = true) {i : Nat} (hi : i < (treeE L).length) (hp : (treeE L)[i].path.data.toList.all plc = true) : findR (treeE L) (treeE L)[i].path 0 0 most = (0, [(treeE L)[i]]) := by
  obtain ⟨g1, g2, g3, g4⟩ := tree_good ht
  have form : ∀ x ∈ treeE L, ∃ s r, x.path = joinT (s :: r) ∧ (∀ y ∈ s :: r, nameB y = true) ∧ r.length < 6 := fun x hx => by
    obtain ⟨nm, -, rest, e1, e2, e3⟩ := ents_form 6 _ [] g1 (fun _ h => nomatch h) x hx
    exact ⟨nm, rest, e1, e2, e3⟩
  obtain ⟨s, r, e1, e2, e3⟩ := form _ (List.getElem_mem hi)
  have hpc : pcL (treeE L)[i].path = s :: r := by rw [e1, pcL, spl_join s r e2]; exact bsOf_inj (bsOf_baL _)
  have herr : errP (pcL (treeE L)[i].path) = 0 := by
    rw [hpc, errP]
    have hb : (s :: r).any badB = false := List.any_eq_false.2 fun y hy hb => by
      have := (badB_iff y).1 hb
      have := nameB_size (e2 y hy)
      omega
    rw [hb, if_neg (by simp), if_neg (by simp; omega)]
  rw [findR, if_neg (fun h => h herr), if_neg (by omega)]
  congr 1
  rw [← filter_one hi (ents_apart 6 _ [] g1 (fun _ h => nomatch h))]
  refine List.filter_congr fun x hx => ?_
  obtain ⟨s', r', f1, f2, -⟩ := form x hx
  have hz := (g4 x hx).2
  have d1 : decide ((x.data.size : Int) ≥ 0) = true := decide_eq_true (by omega)
  have d2 : decide ((x.data.size : Int) ≤ most) = true := decide_eq_true (by unfold most; omega)
  have hpl : ∀ q ∈ bsOf (s :: r), q.all plc = true := by rw [e1] at hp; exact plain_pieces s r hp
  simp only [hitB, kindB, d1, d2, Bool.true_and, beq_self_eq_true, Bool.true_or]
  rw [e1, f1, spl_join s r e2, spl_join s' r' f2, tel_plain _ _ hpl, Bool.eq_iff_iff]
  simp only [beq_iff_eq, decide_eq_true_eq]
  constructor
  · intro h; rw [bsOf_inj h]
  · intro h; rw [join_inj (by simp) (by simp) f2 e2 h]
/-- What ** finds. -/
def allS : ByteArray := ⟨#[42, 42]⟩
theorem tel_all (n : List Bs) : tel (spl allS.data.toList) n = true := by
  have e : spl allS.data.toList = [every] := by decide
  rw [e, tel_every, sufs_iff]
  exact ⟨n.length, Nat.le_refl _, by rw [List.drop_length]; rfl⟩
theorem all_find (E : List Ent) (q : Nat) (hq : q ≤ 2) (mn mx : Int) : findR E allS q mn mx = (0, E.filter fun x => kindB q x.dir && (decide ((x.data.size : Int) ≥ mn) && decide ((x.data.size : Int) ≤ mx))) := by
  have herr : errP (pcL allS) = 0 := by kernel_rfl
  rw [findR, if_neg (fun h => h herr), if_neg (by omega)]
  congr 1
  refine List.filter_congr fun x _ => ?_
  rw [hitB, tel_all, Bool.and_true]
theorem count_two (E : List Ent) (f g : Ent → Bool) (h : ∀ x ∈ E, g x = !f x) : (E.filter f).length + (E.filter g).length = E.length := by
  induction E with
  | nil => rfl
  | cons a E ih =>
    have := ih (fun x hx => h x (by simp [hx]))
    have ha := h a (by simp)
    simp only [List.filter_cons]
    cases hf : f a
    · rw [hf] at ha; rw [ha]; simp; omega
    · rw [hf] at ha; rw [ha]; simp; omega
end Go.Proofs.YtndlmdpljciilaaDoor
