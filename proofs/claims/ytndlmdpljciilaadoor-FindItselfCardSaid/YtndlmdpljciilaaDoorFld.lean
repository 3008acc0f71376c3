/- Trees of files and directories: what Build, with and Entries make; the plain laws. Own work; no condition. -/
import Derived.Test.YtndlmdpljciilaaDoorRow
import Derived.Test.YtndlmdpljciilaaDoorPth
namespace Go.Proofs.YtndlmdpljciilaaDoor
open Go.RowKit Go.Eng Go.Eng.Pc
set_option maxRecDepth 100000
/-! ### the order of names -/
def cmpB (a b : ByteArray) : Int := Lib.compareBytes a.data.toList b.data.toList
def ltB (a b : ByteArray) : Prop := cmpB a b < 0
instance (a b : ByteArray) : Decidable (ltB a b) := inferInstanceAs (Decidable (_ < _))
theorem cmp_range : ∀ a b : List UInt8, Lib.compareBytes a b = -1 ∨ Lib.compareBytes a b = 0 ∨ Lib.compareBytes a b = 1
  | [], [] => by simp [Lib.compareBytes]
  | [], _ :: _ => by simp [Lib.compareBytes]
  | _ :: _, [] => by simp [Lib.compareBytes]
  | a :: xs, b :: bs => by
    simp only [Lib.compareBytes]
    split
    · simp
    · split
      · simp
      · exact cmp_range xs bs
theorem cmp_zero : ∀ a b : List UInt8, Lib.compareBytes a b = 0 ↔ a = b
  | [], [] => by simp [Lib.compareBytes]
  | [], _ :: _ => by simp [Lib.compareBytes]
  | _ :: _, [] => by simp [Lib.compareBytes]
  | a :: xs, b :: bs => by
    simp only [Lib.compareBytes]
    split
    · rename_i h; simp; rintro rfl; exact absurd h (UInt8.lt_irrefl _)
    · split
      · rename_i h1 h; simp; rintro rfl; exact absurd h (UInt8.lt_irrefl _)
      · rename_i h1 h2
        rw [cmp_zero xs bs]
        have : a = b := UInt8.le_antisymm (UInt8.not_lt.1 h2) (UInt8.not_lt.1 h1)
        simp [this]
theorem cmp_trans : ∀ a b c : List UInt8, Lib.compareBytes a b < 0 → Lib.compareBytes b c < 0 → Lib.compareBytes a c < 0
  | a, b, [], _, h2 => by cases b <;> simp [Lib.compareBytes] at h2
  | a, [], _ :: _, h1, _ => by cases a <;> simp [Lib.compareBytes] at h1
  | [], b :: bs, c :: cs, _, _ => by simp [Lib.compareBytes]
  | a :: xs, b :: bs, c :: cs, h1, h2 => by
    simp only [Lib.compareBytes] at h1 h2 ⊢
    split at h1
    · rename_i hab
      split at h2
      · rename_i hbc; rw [if_pos (UInt8.lt_trans hab hbc)]; decide
      · split at h2
        · simp at h2
        · rename_i x y
          obtain rfl : b = c := UInt8.le_antisymm (UInt8.not_lt.1 y) (UInt8.not_lt.1 x)
          rw [if_pos hab]; decide
    · split at h1
      · simp at h1
      · rename_i x y
        obtain rfl : a = b := UInt8.le_antisymm (UInt8.not_lt.1 y) (UInt8.not_lt.1 x)
        split at h2
        · rename_i hbc; rw [if_pos hbc]; decide
        · rename_i hbc
          rw [if_neg hbc]
          split at h2
          · simp at h2
          · rename_i hcb
            rw [if_neg hcb]
            exact cmp_trans xs bs cs h1 h2
theorem cmp_swap : ∀ a b : List UInt8, Lib.compareBytes a b = - Lib.compareBytes b a
  | [], [] => by simp [Lib.compareBytes]
  | [], _ :: _ => by simp [Lib.compareBytes]
  | _ :: _, [] => by simp [Lib.compareBytes]
  | a :: xs, b :: bs => by
    simp only [Lib.compareBytes]
    by_cases h : a < b
    · have : ¬ b < a := fun h' => UInt8.lt_irrefl _ (UInt8.lt_trans h h')
      simp [h, this]
    · by_cases h' : b < a
      · simp [h, h']
      · simp [h, h', cmp_swap xs bs]
theorem ltB_trans {a b c : ByteArray} (h1 : ltB a b) (h2 : ltB b c) : ltB a c := cmp_trans _ _ _ h1 h2
theorem cmpB_zero {a b : ByteArray} : cmpB a b = 0 ↔ a = b := (cmp_zero _ _).trans ⟨ba_ext, fun h => by rw [h]⟩
theorem ltB_irrefl (a : ByteArray) : ¬ ltB a a := by unfold ltB; rw [cmpB_zero.2 rfl]; decide
theorem ltB_or {a b : ByteArray} (h : ¬ ltB a b) (hne : a ≠ b) : ltB b a := by
  unfold ltB cmpB at *
  rw [cmp_swap]
  have := cmp_range a.data.toList b.data.toList
  have h0 : Lib.compareBytes a.data.toList b.data.toList ≠ 0 := fun h => hne (cmpB_zero.1 h)
  omega
/-- Where a name stands, or would; is it there? -/
def lbd (ns : List ByteArray) (t : ByteArray) : Nat := (ns.takeWhile fun x => decide (ltB x t)).length
def fnd (ns : List ByteArray) (t : ByteArray) : Bool := match ns[lbd ns t]? with | some x => decide (x = t) | none => false
def Srt (ns : List ByteArray) : Prop := ns.Pairwise ltB
theorem lbd_le (ns : List ByteArray) (t : ByteArray) : lbd ns t ≤ ns.length := (List.takeWhile_sublist _).length_le
theorem lbd_of {ns : List ByteArray} {t : ByteArray} : ∀ {i : Nat}, i ≤ ns.length → (∀ k (h : k < ns.length), k < i → ltB ns[k] t) → (∀ h : i < ns.length, ¬ ltB ns[i] t) → lbd ns t = i := by
  induction ns with
  | nil => intro i h _ _; simp at h; simp [lbd, h]
  | cons x r ih =>
    intro i h h1 h2
    cases i with
    | zero => have := h2 (by simp); simp only [List.getElem_cons_zero] at this; simp [lbd, this]
    | succ i =>
      have h3 := h1 0 (by simp) (by omega)
      simp only [List.getElem_cons_zero] at h3
      have h4 := ih (i := i) (by simpa using h) (fun k hk hki => by have := h1 (k + 1) (by simpa using hk) (by omega); simpa using this) (fun hk => by have := h2 (by simpa using hk); simpa using this)
      simp only [lbd] at h4
      simp [lbd, h3, h4]
theorem lbd_lt {ns : List ByteArray} {t : ByteArray} : ∀ {k : Nat} (h : k < ns.length), k < lbd ns t → ltB ns[k] t := by
  induction ns with
  | nil => intro k h; simp at h
  | cons x r ih =>
    intro k h hk
    simp only [lbd, List.takeWhile_cons] at hk
    by_cases hx : ltB x t
    · simp only [hx, decide_true, if_true, List.length_cons] at hk
      cases k with
      | zero => simpa using hx
      | succ k => simp only [List.getElem_cons_succ]; exact ih (by simpa using h) (by simp only [lbd]; omega)
    · simp [hx] at hk
theorem lbd_ge {ns : List ByteArray} {t : ByteArray} : ∀ (h : lbd ns t < ns.length), ¬ ltB ns[lbd ns t] t := by
  induction ns with
  | nil => intro h; simp at h
  | cons x r ih =>
    intro h
    by_cases hx : ltB x t
    · have e : lbd (x :: r) t = lbd r t + 1 := by simp [lbd, hx]
      have := ih (by rw [e] at h; simpa using h)
      simp only [e, List.getElem_cons_succ]
      exact this
    · have e : lbd (x :: r) t = 0 := by simp [lbd, hx]
      simp only [e, List.getElem_cons_zero]
      exact hx
theorem fnd_iff {ns : List ByteArray} {t : ByteArray} : fnd ns t = true ↔ ∃ h : lbd ns t < ns.length, ns[lbd ns t] = t := by
  unfold fnd
  by_cases h : lbd ns t < ns.length
  · rw [List.getElem?_eq_getElem h]; simp [h]
  · rw [List.getElem?_eq_none (by omega)]; simp [h]
/-! ### entries, trees -/
structure Ent where
  path : ByteArray
  dir : Bool
  data : ByteArray
instance : DecidableEq Ent := fun a b => if h : a.path = b.path ∧ a.dir = b.dir ∧ a.data = b.data then isTrue (by cases a; cases b; simp_all) else isFalse (by rintro rfl; exact h ⟨rfl, rfl, rfl⟩)
def Ent.vs (e : Ent) : List Value := [.string e.path, .bool e.dir, .string e.data]
theorem Ent.sz (e : Ent) : e.vs.length = 3 := rfl
inductive Tr where
  | mk (name : ByteArray) (dir : Bool) (data : ByteArray) (kids : List Tr)
def Tr.name : Tr → ByteArray | .mk n _ _ _ => n
def Tr.dir : Tr → Bool | .mk _ d _ _ => d
def Tr.data : Tr → ByteArray | .mk _ _ t _ => t
def Tr.kids : Tr → List Tr | .mk _ _ _ k => k
/-- A kid xs it lies in memory. -/
structure Kd where
  name : ByteArray
  dir : Bool
  data : ByteArray
  kv : Value
def Kd.vs (k : Kd) : List Value := [.string k.name, .bool k.dir, .string k.data, k.kv]
theorem Kd.sz (k : Kd) : k.vs.length = 4 := rfl
def Kd.is (k : Kd) (t : Tr) : Prop := k.name = t.name ∧ k.dir = t.dir ∧ k.data = t.data
/-- Kids in a heap that is only read. -/
inductive KidsIn (h : Gh) : Value → List Tr → Prop
  | nil : KidsIn h (.slice none 0 0) []
  | blk (b : Nat) (L : List Kd) (ks : List Tr) (hb : h b = some (.cells (rowsV Kd.vs L).toArray 76 (0, 0))) (hl : L.length = ks.length) (his : ∀ (i : Nat) (t : Tr) (k : Kd), ks[i]? = some t → L[i]? = some k → k.is t)
      (hk : ∀ (i : Nat) (t : Tr) (k : Kd), ks[i]? = some t → L[i]? = some k → KidsIn h k.kv t.kids) : KidsIn h (.slice (some ⟨b, 0, none⟩) ks.length ks.length) ks
theorem KidsIn.le {h h' : Gh} {v : Value} {ks : List Tr} (k : KidsIn h v ks) (hl : h.le h') : KidsIn h' v ks := by
  induction k with
  | nil => exact .nil
  | blk b L ks hb hll his _ ih => exact .blk b L ks (hl _ _ hb) hll his ih
/-- What a slice of kids is. -/
structure KRow (h : Gh) (a : Option Addr) (L : List Kd) (ks : List Tr) : Prop where
  len : L.length = ks.length
  at_ : a = none ∧ ks = [] ∨ ∃ b, a = some ⟨b, 0, none⟩ ∧ h b = some (.cells (rowsV Kd.vs L).toArray 76 (0, 0))
  is_ : ∀ (i : Nat) (t : Tr) (k : Kd), ks[i]? = some t → L[i]? = some k → k.is t
  kid : ∀ (i : Nat) (t : Tr) (k : Kd), ks[i]? = some t → L[i]? = some k → KidsIn h k.kv t.kids
theorem KidsIn.row {h : Gh} {v : Value} {ks : List Tr} (k : KidsIn h v ks) : ∃ a L, v = .slice a ks.length ks.length ∧ KRow h a L ks := by
  cases k with
  | nil => exact ⟨none, [], rfl, rfl, .inl ⟨rfl, rfl⟩, fun i t k h => by simp at h, fun i t k h => by simp at h⟩
  | blk b L ks hb hl his hk => exact ⟨_, L, rfl, hl, .inr ⟨b, rfl, hb⟩, his, hk⟩
theorem KRow.rd {h : Gh} {a : Option Addr} {L : List Kd} {ks : List Tr} (k : KRow h a L ks) {w : World} (hw : h.In w) : Rd w a (rowsV Kd.vs L) := by
  rcases k.at_ with ⟨rfl, rfl⟩ | ⟨b, rfl, hb⟩
  · have := k.len
    simp at this
    subst this
    exact .inl rfl
  · exact .mk (hw.cell hb)
theorem KRow.names {h : Gh} {a : Option Addr} {L : List Kd} {ks : List Tr} (k : KRow h a L ks) : L.map Kd.name = ks.map Tr.name := by
  refine List.ext_getElem? fun i => ?_
  simp only [List.getElem?_map]
  by_cases hi : i < ks.length
  · have hi' : i < L.length := by rw [k.len]; exact hi
    have := k.is_ i _ _ (List.getElem?_eq_getElem hi) (List.getElem?_eq_getElem hi')
    rw [List.getElem?_eq_getElem hi, List.getElem?_eq_getElem hi']
    simp [this.1]
  · have h1 := k.len
    rw [List.getElem?_eq_none (show ks.length ≤ i by omega), List.getElem?_eq_none (show L.length ≤ i by omega)]; rfl
theorem KRow.some_ {h : Gh} {a : Option Addr} {L : List Kd} {ks : List Tr} (k : KRow h a L ks) {i : Nat} (hi : i < ks.length) : ∃ b, a = some ⟨b, 0, none⟩ ∧ h b = some (.cells (rowsV Kd.vs L).toArray 76 (0, 0)) := by
  rcases k.at_ with ⟨-, rfl⟩ | h
  · simp at hi
  · exact h
/-! ### with -/
def names (ks : List Tr) : List ByteArray := ks.map Tr.name
abbrev e0 : ByteArray := ⟨#[]⟩
/-- The error, and the kids. -/
def withF : List ByteArray → Bool → List Tr → Bool → ByteArray → Int × List Tr
  | [], _, _, _, _ => (8, [])
  | nm :: rest, d, ks, xd, xt =>
    if d = false ∨ fnd (names ks) nm = rest.isEmpty then (8, [])
    else if rest.isEmpty = true then (if 6 < ks.length + 1 ∨ 8192 < xt.size then (6, []) else (0, ks.take (lbd (names ks) nm) ++ [.mk nm xd xt []] ++ ks.drop (lbd (names ks) nm)))
    else match ks[lbd (names ks) nm]? with
      | none => (8, [])
      | some t => let r := withF rest t.dir t.kids xd xt
        if r.1 = 0 then (0, ks.set (lbd (names ks) nm) (.mk t.name true e0 r.2)) else (r.1, [])
/-- What Build makes. -/
def step (ks : List Tr) (e : Ent) : Int × List Tr :=
  let er := if errN e.path = 0 ∧ e.dir = true ∧ e.data ≠ e0 then 8 else errN e.path
  if er = 0 then withF (namesOf e.path) true ks e.dir e.data else (er, [])
def buildF : List Tr → List Ent → Int × List Tr
  | ks, [] => (0, ks)
  | ks, e :: r => let s := step ks e; if s.1 = 0 then buildF s.2 r else (s.1, [])
/-! ### good trees -/
def Good : Nat → List Tr → Prop
  | 0, ks => ks = []
  | n + 1, ks => Srt (names ks) ∧ ∀ t ∈ ks, nameB t.name = true ∧ t.data.size ≤ 8192 ∧ Good n t.kids
mutual
def Tr.cnt : Tr → Nat | .mk _ _ _ ks => 1 + cntL ks
def cntL : List Tr → Nat
  | [] => 0
  | t :: r => t.cnt + cntL r
end
theorem cntL_append (a b : List Tr) : cntL (a ++ b) = cntL a + cntL b := by
  induction a with
  | nil => simp [cntL]
  | cons t r ih => simp [cntL, ih]; omega
theorem cnt_pos (t : Tr) : 1 ≤ t.cnt := by cases t; simp [Tr.cnt]
theorem cntL_len (ks : List Tr) : ks.length ≤ cntL ks := by
  induction ks with
  | nil => simp
  | cons t r ih => have := cnt_pos t; simp [cntL]; omega
theorem cntL_set {ks : List Tr} {i : Nat} {t : Tr} (h : ks[i]? = some t) (t' : Tr) : cntL (ks.set i t') + t.cnt = cntL ks + t'.cnt := by
  induction ks generalizing i with
  | nil => simp at h
  | cons x r ih =>
    cases i with
    | zero => simp at h; subst h; simp [cntL]; omega
    | succ i => simp at h; have := ih h; simp [cntL]; omega
theorem srt_ins {ns : List ByteArray} {t : ByteArray} (h : Srt ns) (hf : fnd ns t = false) : Srt (ns.take (lbd ns t) ++ [t] ++ ns.drop (lbd ns t)) := by
  unfold Srt at *
  have h1 : ∀ x ∈ ns.take (lbd ns t), ltB x t := fun x hx => by
    obtain ⟨k, hk, rfl⟩ := List.getElem_of_mem hx
    rw [List.length_take] at hk
    rw [List.getElem_take]
    exact lbd_lt (by omega) (by omega)
  have h2 : ∀ x ∈ ns.drop (lbd ns t), ltB t x := fun x hx => by
    obtain ⟨k, hk, rfl⟩ := List.getElem_of_mem hx
    rw [List.length_drop] at hk
    rw [List.getElem_drop]
    have hl : lbd ns t < ns.length := by omega
    have h3 : ltB t ns[lbd ns t] := ltB_or (lbd_ge hl) fun e => by
      have := fnd_iff.2 ⟨hl, e⟩
      rw [hf] at this; cases this
    cases k with
    | zero => simpa using h3
    | succ k => exact ltB_trans h3 (List.pairwise_iff_getElem.1 h _ _ (by omega) (by omega) (by omega))
  have h3 := List.take_append_drop (lbd ns t) ns
  rw [← h3] at h
  obtain ⟨a1, a2, a3⟩ := List.pairwise_append.1 h
  rw [List.append_assoc]
  refine List.pairwise_append.2 ⟨a1, List.pairwise_cons.2 ⟨h2, a2⟩, fun x hx y hy => ?_⟩
  rcases List.mem_cons.1 hy with rfl | hy
  · exact h1 x hx
  · exact a3 x hx y hy
theorem names_len (ks : List Tr) : (names ks).length = ks.length := by simp [names]
theorem with_good : ∀ (nl : List ByteArray) (n : Nat) (d : Bool) (ks : List Tr) (xd : Bool) (xt : ByteArray), nl.length ≤ n → (∀ s ∈ nl, nameB s = true) → Good n ks → (withF nl d ks xd xt).1 = 0 → Good n (withF nl d ks xd xt).2 ∧ cntL (withF nl d ks xd xt).2 = cntL ks + 1
  | [], _, _, _, _, _, _, _, _, h => by simp [withF] at h
  | nm :: rest, 0, _, _, _, _, hn, _, _, _ => by simp at hn
  | nm :: rest, n + 1, d, ks, xd, xt, hn, hN, hg, h => by
    obtain ⟨hs, hk⟩ := hg
    simp only [withF] at h ⊢
    split at h
    · simp at h
    · rename_i h1
      rw [if_neg h1]
      have h1 := not_or.1 h1
      split at h
      · rename_i h2
        rw [if_pos h2]
        split at h
        · simp at h
        · rename_i h3
          rw [if_neg h3]
          have hf : fnd (names ks) nm = false := by
            cases e : fnd (names ks) nm with
            | false => rfl
            | true => exact absurd (e.trans h2.symm) h1.2
          refine ⟨⟨?_, fun t ht => ?_⟩, ?_⟩
          · have := srt_ins hs hf
            simpa [names, List.map_take, List.map_drop, Tr.name] using this
          · simp only [List.append_assoc, List.mem_append, List.mem_cons, List.not_mem_nil, or_false] at ht
            rcases ht with ht | rfl | ht
            · exact hk t (List.mem_of_mem_take ht)
            · refine ⟨hN nm (by simp), ?_, ?_⟩
              · show xt.size ≤ 8192; omega
              · cases n with
                | zero => rfl
                | succ n => exact ⟨.nil, fun _ h => by cases h⟩
            · exact hk t (List.mem_of_mem_drop ht)
          · simp only []
            rw [cntL_append, cntL_append]
            have := congrArg cntL (List.take_append_drop (lbd (names ks) nm) ks)
            rw [cntL_append] at this
            simp [cntL, Tr.cnt]; omega
      · rename_i h2
        rw [if_neg h2]
        cases e : ks[lbd (names ks) nm]? with
        | none => rw [e] at h; simp at h
        | some t =>
          rw [e] at h
          simp only [] at h ⊢
          split at h
          · rename_i h3
            rw [if_pos h3]
            have ht := List.mem_of_getElem? e
            obtain ⟨k1, k2, k3⟩ := hk t ht
            obtain ⟨g1, g2⟩ := with_good rest n t.dir t.kids xd xt (by simpa using hn) (fun s hs => hN s (by simp [hs])) k3 h3
            refine ⟨⟨?_, fun t' ht' => ?_⟩, ?_⟩
            · have : names (ks.set (lbd (names ks) nm) (.mk t.name true e0 (withF rest t.dir t.kids xd xt).2)) = names ks := by
                simp only [names, List.map_set, Tr.name]
                refine List.ext_getElem? fun i => ?_
                rw [List.getElem?_set]
                split
                · rename_i hi
                  subst hi
                  split
                  · simp only [names] at e
                    rw [List.getElem?_map, e]; rfl
                  · rename_i hi; rw [List.getElem?_eq_none (by omega)]
                · rfl
              rw [this]; exact hs
            · rcases List.mem_or_eq_of_mem_set ht' with ht' | rfl
              · exact hk t' ht'
              · exact ⟨k1, by show e0.size ≤ 8192; decide, g1⟩
            · simp only []
              have := cntL_set e (.mk t.name true e0 (withF rest t.dir t.kids xd xt).2)
              have e2 : t.cnt = 1 + cntL t.kids := by cases t; rfl
              simp only [Tr.cnt] at this
              omega
          · simp at h; omega
theorem nameB_size {s : ByteArray} (h : nameB s = true) : s.size ≤ 16 ∧ 1 ≤ s.size := by
  unfold nameB at h
  simp at h
  omega
end Go.Proofs.YtndlmdpljciilaaDoor
