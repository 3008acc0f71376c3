/- Chunks: what is parsed of bytes, what is put, and when both are one. -/
import Derived.Test.YtdkonngkbbgcgaaGreatDoorStrq
namespace Go.Proofs.YtdkonngkbbgcgaaGreatDoor
set_option maxRecDepth 100000
structure CKid where
  name : Bys
  dir : Bool
  hash : Bys
  height : Nat
  size : Nat
structure Chk where
  kind : Nat
  data : Bys
  kids : List CKid
/-- A name, and how long it is ahead of it. -/
def opName (o : Opn) : Bys × Opn := if o.2 then ([], o) else match o.1 with
  | [] => ([], ([], true))
  | c :: r => if r.length < c.toNat then ([], (c :: r, true)) else (r.take c.toNat, (r.drop c.toNat, false))
def hash32 (h : Bys) : Bys := if h.length = 32 then h else List.replicate 32 0
/-- The end of a child: its hash, height and size. -/
def kidE (nm : Bys) (d : Bool) (o : Opn) : CKid × Opn := (⟨nm, d, hash32 (opT 32 o).1, (opN 1 (opT 32 o).2).1, (opN 4 (opN 1 (opT 32 o).2).2).1⟩, (opN 4 (opN 1 (opT 32 o).2).2).2)
def kidF (kind : Nat) (o : Opn) : CKid × Opn := if kind = 3 then kidE (opName (opN 1 o).2).1 (decide ((opN 1 o).1 = 1)) (opName (opN 1 o).2).2 else kidE [] false o
def kidsF (kind : Nat) : Nat → Opn → List CKid × Opn
  | 0, o => ([], o)
  | n + 1, o => ((kidF kind o).1 :: (kidsF kind n (kidF kind o).2).1, (kidsF kind n (kidF kind o).2).2)
def parC (b : Bys) : Chk × Opn :=
  if (opN 1 (b, false)).1 = 1 then (⟨1, (opN 1 (b, false)).2.1, []⟩, ([], (opN 1 (b, false)).2.2))
  else (⟨(opN 1 (b, false)).1, [], (kidsF (opN 1 (b, false)).1 (opN 1 (opN 1 (b, false)).2).1 (opN 1 (opN 1 (b, false)).2).2).1⟩, (kidsF (opN 1 (b, false)).1 (opN 1 (opN 1 (b, false)).2).1 (opN 1 (opN 1 (b, false)).2).2).2)
def kidP (kind : Nat) (k : CKid) : Bys := (if kind = 3 then (if k.dir then 1 else 0) :: (beN 1 k.name.length ++ k.name) else []) ++ (k.hash ++ (beN 1 k.height ++ beN 4 k.size))
def putC (c : Chk) : Bys := beN 1 c.kind ++ c.data ++ (if c.kind = 1 then [] else beN 1 c.kids.length) ++ c.kids.flatMap (kidP c.kind)
/-! ### lengths -/
theorem opT_not {n : Nat} {o : Opn} (h : (opT n o).2.2 = false) : o.2 = false ∧ n ≤ o.1.length ∧ (opT n o).1 = o.1.take n ∧ (opT n o).2.1 = o.1.drop n := by
  unfold opT at *
  split at h
  · rename_i hb; rw [hb] at h; cases h
  · rename_i hb
    split at h
    · cases h
    · rename_i hl
      rw [if_neg hb, if_neg hl]
      exact ⟨by simpa using hb, by omega, rfl, rfl⟩
theorem opT_yes {n : Nat} {o : Opn} (h : (opT n o).2.2 = true) (h' : o.2 = false) : o.1.length < n := by
  unfold opT at h
  rw [h', if_neg Bool.false_ne_true] at h
  split at h
  · assumption
  · cases h
theorem hash32_len (h : Bys) : (hash32 h).length = 32 := by
  unfold hash32
  split
  · assumption
  · rw [List.length_replicate]
theorem kidE_len (kind : Nat) (nm : Bys) (d : Bool) (o : Opn) : (kidP kind (kidE nm d o).1).length = (if kind = 3 then 2 + nm.length else 0) + 37 := by
  simp only [kidP, kidE, List.length_append, beN_length, hash32_len]
  split
  · simp only [List.length_cons, List.length_append, beN_length]; omega
  · rfl
theorem kidE_not {nm : Bys} {d : Bool} {o : Opn} (h : (kidE nm d o).2.2 = false) : o.2 = false ∧ 37 + (kidE nm d o).2.1.length = o.1.length := by
  simp only [kidE, opN] at h ⊢
  obtain ⟨a1, a2, a3, a4⟩ := opT_not h
  obtain ⟨b1, b2, b3, b4⟩ := opT_not a1
  obtain ⟨c1, c2, c3, c4⟩ := opT_not b1
  refine ⟨c1, ?_⟩
  rw [a4, b4, c4]
  rw [b4, c4] at a2
  rw [c4] at b2
  simp only [List.length_drop] at *
  omega
theorem kidE_yes {nm : Bys} {d : Bool} {o : Opn} (h : (kidE nm d o).2.2 = true) (h' : o.2 = false) : o.1.length < 37 := by
  simp only [kidE, opN] at h
  rcases hb : (opT 32 o).2.2 with _ | _
  · obtain ⟨c1, c2, c3, c4⟩ := opT_not hb
    rcases hb2 : (opT 1 (opT 32 o).2).2.2 with _ | _
    · obtain ⟨b1, b2, b3, b4⟩ := opT_not hb2
      have := opT_yes h hb2
      rw [b4, c4] at this
      rw [c4] at b2
      simp only [List.length_drop] at *
      omega
    · have := opT_yes hb2 hb
      rw [c4] at this
      simp only [List.length_drop] at *
      omega
  · have := opT_yes hb h'
    omega
theorem opName_not {o : Opn} (h : (opName o).2.2 = false) : o.2 = false ∧ 1 + (opName o).1.length + (opName o).2.1.length = o.1.length := by
  obtain ⟨r, bad⟩ := o
  unfold opName at *
  cases bad with
  | true => simp at h
  | false =>
    cases r with
    | nil => simp at h
    | cons c r =>
      simp only [if_neg Bool.false_ne_true] at h ⊢
      split at h
      · cases h
      · rename_i hl
        rw [if_neg hl]
        refine ⟨trivial, ?_⟩
        simp only [List.length_take, List.length_drop, List.length_cons]
        omega
theorem opName_yes {o : Opn} (h : (opName o).2.2 = true) : (opName o).1 = [] := by
  obtain ⟨r, bad⟩ := o
  unfold opName at *
  cases bad with
  | true => rfl
  | false =>
    cases r with
    | nil => rfl
    | cons c r =>
      simp only [if_neg Bool.false_ne_true] at h ⊢
      split at h
      · rename_i hl; rw [if_pos hl]
      · cases h
theorem kid_not {kind : Nat} {o : Opn} (h : (kidF kind o).2.2 = false) : o.2 = false ∧ (kidP kind (kidF kind o).1).length + (kidF kind o).2.1.length = o.1.length := by
  unfold kidF at *
  split at h
  · rename_i hk
    simp only [hk, if_true] at h ⊢
    obtain ⟨a1, a2⟩ := kidE_not h
    obtain ⟨b1, b2⟩ := opName_not a1
    obtain ⟨c1, c2, c3, c4⟩ := opT_not (n := 1) (o := o) b1
    refine ⟨c1, ?_⟩
    rw [kidE_len, if_pos rfl]
    have : (opN 1 o).2.1.length = o.1.length - 1 := by
      show (opT 1 o).2.1.length = _
      rw [c4, List.length_drop]
    omega
  · rename_i hk
    simp only [if_neg hk] at h ⊢
    obtain ⟨a1, a2⟩ := kidE_not h
    refine ⟨a1, ?_⟩
    rw [kidE_len, if_neg hk]
    omega
theorem kid_yes {kind : Nat} {o : Opn} (h : (kidF kind o).2.2 = true) (h' : o.2 = false) : o.1.length < (kidP kind (kidF kind o).1).length ∨ kind = 3 ∧ (kidF kind o).1.name = [] := by
  unfold kidF at *
  split at h
  · rename_i hk
    simp only [hk, if_true] at h ⊢
    rcases hn : (opName (opN 1 o).2).2.2 with _ | _
    · obtain ⟨b1, b2⟩ := opName_not hn
      obtain ⟨c1, c2, c3, c4⟩ := opT_not (n := 1) (o := o) b1
      have h3 := kidE_yes h hn
      left
      rw [kidE_len, if_pos rfl]
      have : (opN 1 o).2.1.length = o.1.length - 1 := by
        show (opT 1 o).2.1.length = _
        rw [c4, List.length_drop]
      omega
    · exact .inr ⟨trivial, opName_yes hn⟩
  · rename_i hk
    simp only [if_neg hk] at h ⊢
    left
    have := kidE_yes h h'
    rw [kidE_len, if_neg hk]
    omega
theorem kids_bad (kind : Nat) : ∀ (n : Nat) (o : Opn), o.2 = true → (kidsF kind n o).2.2 = true
  | 0, _, h => h
  | n + 1, o, h => by
    simp only [kidsF]
    refine kids_bad kind n _ ?_
    rcases hx : (kidF kind o).2.2 with _ | _
    · rw [(kid_not hx).1] at h; cases h
    · rfl
theorem kids_len {kind : Nat} : ∀ (n : Nat) (o : Opn), o.2 = false → ((kidsF kind n o).2.2 = false → ((kidsF kind n o).1.flatMap (kidP kind)).length + (kidsF kind n o).2.1.length = o.1.length) ∧ ((kidsF kind n o).2.2 = true → o.1.length < ((kidsF kind n o).1.flatMap (kidP kind)).length ∨ kind = 3 ∧ ∃ k ∈ (kidsF kind n o).1, k.name = [])
  | 0, o, h => ⟨fun _ => by simp [kidsF], fun h2 => by simp only [kidsF] at h2; rw [h] at h2; cases h2⟩
  | n + 1, o, h => by
    simp only [kidsF, List.flatMap_cons, List.length_append]
    rcases hb : (kidF kind o).2.2 with _ | _
    · obtain ⟨a1, a2⟩ := kid_not hb
      obtain ⟨i1, i2⟩ := kids_len n (kidF kind o).2 hb
      refine ⟨fun h2 => by have := i1 h2; omega, fun h2 => ?_⟩
      rcases i2 h2 with h3 | ⟨h3, k, hk, hn⟩
      · left; omega
      · exact .inr ⟨h3, k, .tail _ hk, hn⟩
    · refine ⟨fun h2 => ?_, fun _ => ?_⟩
      · rw [kids_bad kind n _ hb] at h2
        cases h2
      · rcases kid_yes hb h with h3 | ⟨h3, hn⟩
        · left; omega
        · exact .inr ⟨h3, _, .head _, hn⟩
/-- What is put again is whole: nothing failed, and nothing is left. -/
theorem put_whole {b : Bys} (hk : (parC b).1.kind = 1 ∨ (parC b).1.kind = 2 ∨ (parC b).1.kind = 3) (hn : (parC b).1.kind = 3 → ∀ k ∈ (parC b).1.kids, k.name ≠ []) (hp : putC (parC b).1 = b) : (parC b).2 = ([], false) := by
  cases b with
  | nil => simp [parC, opN, opT, beV] at hk
  | cons c r =>
    have ho : opN 1 (c :: r, false) = (c.toNat, (r, false)) := by simp [opN, opT, beV]
    unfold parC at *
    rw [ho] at hk hn hp ⊢
    simp only at hk hn hp ⊢
    split at hp
    · rename_i h1
      rw [if_pos h1]
    · rename_i h1
      rw [if_neg h1] at hn hk ⊢
      simp only at hn hk ⊢
      cases r with
      | nil =>
        have hb : opN 1 (([] : Bys), false) = (0, ([], true)) := rfl
        rw [hb] at hp
        have := congrArg List.length hp
        simp [putC, kidsF, beN_length, h1] at this
      | cons n r =>
        have ho2 : opN 1 (n :: r, false) = (n.toNat, (r, false)) := by simp [opN, opT, beV]
        rw [ho2] at hp hn ⊢
        simp only at hp hn ⊢
        obtain ⟨i1, i2⟩ := kids_len (kind := c.toNat) n.toNat (r, false) rfl
        have hlen := congrArg List.length hp
        simp only [putC, List.length_append, beN_length, List.length_cons, List.length_nil, if_neg h1] at hlen
        rcases hbad : (kidsF c.toNat n.toNat (r, false)).2.2 with _ | _
        · have h3 := i1 hbad
          simp only at h3
          have h4 : (kidsF c.toNat n.toNat (r, false)).2.1.length = 0 := by omega
          have h5 := List.length_eq_zero_iff.1 h4
          exact Prod.ext h5 hbad
        · rcases i2 hbad with h3 | ⟨h3, k, hk2, hn2⟩
          · simp only at h3; omega
          · exact absurd hn2 (hn h3 k hk2)
end Go.Proofs.YtdkonngkbbgcgaaGreatDoor
