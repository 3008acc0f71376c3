/- Chunks and streams: what may be, what is taken of bytes, and the law of the way back. -/
import Derived.Test.YtdkonngkbbgcgaaGreatDoorChkp
namespace Go.Proofs.YtdkonngkbbgcgaaGreatDoor
set_option maxRecDepth 100000
/-- How high a chunk is. -/
def hgtF (kind : Nat) (ks : List CKid) : Nat := if kind = 2 ∨ kind = 3 then ks.foldl (fun n k => max n (k.height + 1)) 1 else 0
/-- How many bytes of a file it has. -/
def sizeF (c : Chk) : Nat := if c.kind = 2 then (c.kids.map (·.size)).sum else if c.kind = 3 then 0 else c.data.length
/-- A child's name, beside the one ahead of it. -/
def nameOk (ks : List CKid) (i : Nat) (k : CKid) : Prop := k.name ≠ [] ∧ k.name.length ≤ 16 ∧ ∀ j p, i = j + 1 → ks[j]? = some p → Op.bytesLess p.name k.name = true
def MayC (c : Chk) : Prop := hgtF c.kind c.kids ≤ 255 ∧ c.kids.length ≤ 6 ∧
  ((c.kind = 1 ∧ c.kids = [] ∧ c.data.length ≤ 240) ∨ (c.kind = 2 ∧ (∀ k ∈ c.kids, k.name = [] ∧ k.dir = false) ∧ c.kids ≠ [] ∧ c.data = [] ∧ sizeF c < 4294967296) ∨ (c.kind = 3 ∧ (∀ i k, c.kids[i]? = some k → nameOk c.kids i k) ∧ c.data = []))
open Classical in
noncomputable def mayC (c : Chk) : Bool := decide (MayC c)
theorem mayC_iff {c : Chk} : mayC c = true ↔ MayC c := by unfold mayC; simp
open Classical in
/-- The chunk of bytes. -/
noncomputable def chkF (b : Bys) : Option Chk := if mayC (parC b).1 = true ∧ putC (parC b).1 = b ∧ (parC b).2 = ([], false) then some (parC b).1 else none
noncomputable def ksF (l : List Bys) : List (Option (List Bys)) := l.map fun c => (chkF c).map fun k => k.kids.map (·.hash)
/-- Whether a stream may be. -/
noncomputable def mayF (x : Strm) : Bool := mayP (x.chunks.map shaF) (ksF x.chunks)
open Classical in
/-- The stream of bytes, or an error. -/
noncomputable def takeF (b : Bys) : Option Strm × Nat :=
  if b.length < 42 then (none, 3) else if sumOk b = false then (none, 12) else
  if (parF (b.take (b.length - 4))).2.2 = false ∧ mayF (parF (b.take (b.length - 4))).1 = true ∧ putF (parF (b.take (b.length - 4))).1 = b then (some (parF (b.take (b.length - 4))).1, 0) else (none, 3)
theorem put_len (x : Strm) (hr : x.root.length = 32) : 42 ≤ (putF x).length := by
  simp only [putF, bodyF, List.length_append, sum_length, beN_length, magicL, List.length_cons, List.length_nil, hr]
  omega
theorem put_body (x : Strm) : (putF x).take ((putF x).length - 4) = bodyF x := by
  have h : (putF x).length - 4 = (bodyF x).length := by rw [putF, List.length_append, sum_length]; omega
  rw [h, putF, List.take_left]
theorem back_one {x : Strm} (hm : mayF x = true) (hr : x.root.length = 32) (hn : x.chunks.length < 65536) (hc : ∀ c ∈ x.chunks, c.length < 65536) : takeF (putF x) = (some x, 0) := by
  have hl := put_len x hr
  unfold takeF
  rw [if_neg (by omega), if_neg (by rw [sum_put]; exact fun h => by cases h), put_body, par_body hr hn hc, if_pos ⟨rfl, hm, rfl⟩]
theorem take_sum {b : Bys} (h : (takeF b).2 = 0) : sumOk b = true := by
  unfold takeF at h
  split at h
  · cases h
  · split at h
    · cases h
    · rename_i h2
      simpa using h2
theorem take_ok {b : Bys} (h : (takeF b).2 = 0) : ∃ y, takeF b = (some y, 0) ∧ mayF y = true ∧ putF y = b ∧ y = (parF (b.take (b.length - 4))).1 := by
  unfold takeF at h ⊢
  split at h
  · cases h
  · rename_i h1
    rw [if_neg h1]
    split at h
    · cases h
    · rename_i h2
      rw [if_neg h2]
      split at h
      · rename_i h3
        rw [if_pos h3]
        exact ⟨_, rfl, h3.2.1, h3.2.2, rfl⟩
      · cases h
theorem take_none {b : Bys} (h : (takeF b).2 ≠ 0) : (takeF b).1 = none := by
  unfold takeF at h ⊢
  split
  · rfl
  · rename_i h1
    rw [if_neg h1] at h
    split
    · rfl
    · rename_i h2
      rw [if_neg h2] at h
      split
      · rename_i h3
        rw [if_pos h3] at h
        exact absurd rfl h
      · rfl
/-- One byte is another one: it is refused, and just then. -/
theorem back_change {x : Strm} (hm : mayF x = true) (hr : x.root.length = 32) (hn : x.chunks.length < 65536) (hc : ∀ c ∈ x.chunks, c.length < 65536) {i : Nat} (hi : i < (putF x).length) (d : UInt8) :
    ((takeF ((putF x).set i d)).2 = 0) ↔ d = (putF x)[i] := by
  have hs : (putF x).set i d = (putF x).take i ++ d :: (putF x).drop (i + 1) := by rw [List.set_eq_take_append_cons_drop, if_pos hi]
  have he : putF x = (putF x).take i ++ (putF x)[i] :: (putF x).drop (i + 1) := by rw [List.getElem_cons_drop, List.take_append_drop]
  have hl := put_len x hr
  constructor
  · intro h
    have h1 := take_sum h
    rw [hs] at h1
    have h2 := sum_put x
    rw [he] at h2
    exact (sum_one h2 (by rw [← he]; omega) h1).symm
  · rintro rfl
    rw [List.set_getElem_self, back_one hm hr hn hc]
/-! ### The stream that is known -/
def knownB : Bys := [1, 97, 98]
def knownS : Strm := ⟨shaF knownB, [knownB]⟩
theorem known_par : parC knownB = (⟨1, [97, 98], []⟩, ([], false)) := rfl
theorem known_may : mayC ⟨1, [97, 98], []⟩ = true := mayC_iff.2 ⟨by simp [hgtF], by simp, .inl ⟨rfl, rfl, by simp⟩⟩
theorem known_chk : chkF knownB = some ⟨1, [97, 98], []⟩ := by
  unfold chkF
  rw [known_par, if_pos ⟨known_may, rfl, rfl⟩]
theorem known_mayF : mayF knownS = true := by
  unfold mayF ksF knownS
  simp only [List.map_cons, List.map_nil, known_chk, Option.map_some]
  simp [mayP, allFrom, kidsOk]
theorem known_len : (putF knownS).length = 47 := by
  simp only [putF, bodyF, knownS, knownB, List.length_append, sum_length, beN_length, magicL, List.length_cons, List.length_nil, chP, List.flatMap_cons, List.flatMap_nil, shaF, hashL_length]
theorem known_magic : (putF knownS).take 4 = magicL := by
  simp only [putF, bodyF, List.append_assoc]
  rfl
theorem known_back : takeF (putF knownS) = (some knownS, 0) := back_one known_mayF rfl (by decide) (by simp [knownS, knownB])
theorem known_last (c : UInt8) : (takeF ((putF knownS).set 46 c)).2 = 0 ↔ c = (putF knownS)[46]'(by rw [known_len]; decide) := back_change known_mayF rfl (by decide) (by simp [knownS, knownB]) _ c
theorem known_other (c : UInt8) (h : c ≠ (putF knownS)[46]'(by rw [known_len]; decide)) : (takeF ((putF knownS).set 46 c)).2 = 12 := by
  have hl : ((putF knownS).set 46 c).length = 47 := by rw [List.length_set, known_len]
  have hs : sumOk ((putF knownS).set 46 c) = false := by
    cases hb : sumOk ((putF knownS).set 46 c) with
    | false => rfl
    | true =>
      exfalso
      have hi : 46 < (putF knownS).length := by rw [known_len]; decide
      have e1 : (putF knownS).set 46 c = (putF knownS).take 46 ++ c :: (putF knownS).drop (46 + 1) := by rw [List.set_eq_take_append_cons_drop, if_pos hi]
      have e2 : putF knownS = (putF knownS).take 46 ++ (putF knownS)[46] :: (putF knownS).drop (46 + 1) := by rw [List.getElem_cons_drop, List.take_append_drop]
      have h2 := sum_put knownS
      rw [e2] at h2
      rw [e1] at hb
      exact h (sum_one h2 (by rw [← e2, known_len]; decide) hb).symm
  unfold takeF
  rw [hl, if_neg (by decide), if_pos hs]
/-! ### Lengths -/
theorem chF_bound : ∀ (n : Nat) (o : Opn), (chP (chF n o).1).length ≤ (if o.2 then 0 else o.1.length + 2)
  | 0, o => by simp [chF, chP]
  | n + 1, o => by
    obtain ⟨r, bad⟩ := o
    cases bad with
    | true => simp [chF, chP]
    | false =>
      simp only [chF, if_neg Bool.false_ne_true]
      have ih := chF_bound n (opT (opN 2 (r, false)).1 (opN 2 (r, false)).2).2
      have e : ∀ (c : Bys) l, (chP (c :: l)).length = 2 + c.length + (chP l).length := fun c l => by simp [chP, beN_length, Nat.add_assoc]
      rw [e]
      have h2 := opT_len (opN 2 (r, false)).1 (opN 2 (r, false)).2
      rcases hb : (opT (opN 2 (r, false)).1 (opN 2 (r, false)).2).2.2 with _ | _
      · rw [hb, if_neg Bool.false_ne_true] at ih
        obtain ⟨c1, c2, c3, c4⟩ := opT_not hb
        obtain ⟨d1, d2, d3, d4⟩ := opT_not (n := 2) (o := (r, false)) c1
        have d5 : (opN 2 (r, false)).2.1 = r.drop 2 := d4
        rw [c4, d5] at ih
        rw [d5] at c2
        simp only [List.length_drop] at ih c2 d2
        omega
      · rw [hb, if_pos rfl] at ih
        have hz : (opT (opN 2 (r, false)).1 (opN 2 (r, false)).2).1 = [] := by
          unfold opT at hb ⊢
          split
          · rfl
          · split
            · rfl
            · rename_i h5 h6
              rw [if_neg h5, if_neg h6] at hb
              cases hb
        rw [hz]
        simp only [List.length_nil]
        omega
theorem chP_count : ∀ (l : List Bys), 2 * l.length ≤ (chP l).length
  | [] => by simp [chP]
  | c :: l => by
    have := chP_count l
    have e : (chP (c :: l)).length = 2 + c.length + (chP l).length := by simp [chP, beN_length, Nat.add_assoc]
    rw [e, List.length_cons]; omega
theorem chP_mem : ∀ (l : List Bys) (c : Bys), c ∈ l → c.length ≤ (chP l).length
  | [], _, h => by cases h
  | x :: l, c, h => by
    have e : (chP (x :: l)).length = 2 + x.length + (chP l).length := by simp [chP, beN_length, Nat.add_assoc]
    rw [e]
    rcases List.mem_cons.1 h with rfl | h
    · omega
    · have := chP_mem l c h; omega
end Go.Proofs.YtdkonngkbbgcgaaGreatDoor
