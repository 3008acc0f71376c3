/- Openers and streams: what is read of bytes, what is put, and that each answers the other. -/
import Derived.Test.YtdkonngkbbgcgaaGreatDoorShaq
namespace Go.Proofs.YtdkonngkbbgcgaaGreatDoor
set_option maxRecDepth 100000
abbrev Bys := List UInt8
/-- An opener: what is left, and whether it failed. -/
abbrev Opn := Bys × Bool
def opT (n : Nat) (o : Opn) : Bys × Opn := if o.2 then ([], o) else if o.1.length < n then ([], (o.1, true)) else (o.1.take n, (o.1.drop n, false))
def opN (w : Nat) (o : Opn) : Nat × Opn := (beV (opT w o).1, (opT w o).2)
theorem opT_ok (a b : Bys) : opT a.length (a ++ b, false) = (a, (b, false)) := by
  unfold opT
  simp
theorem opN_ok {w n : Nat} (h : n < 256 ^ w) (b : Bys) : opN w (beN w n ++ b, false) = (n, (b, false)) := by
  have := opT_ok (beN w n) b
  rw [beN_length] at this
  rw [opN, this]
  simp only [beV_beN w n h]
theorem opT_bad (n : Nat) (r : Bys) : opT n (r, true) = ([], (r, true)) := by simp [opT]
theorem opT_len (n : Nat) (o : Opn) : (opT n o).1.length ≤ n := by
  unfold opT
  split
  · simp
  · split
    · simp
    · rw [List.length_take]; omega
/-- Texts, each with its length ahead of it. -/
def chF : Nat → Opn → List Bys × Opn
  | 0, o => ([], o)
  | n + 1, o => if o.2 then ([], o) else ((opT (opN 2 o).1 (opN 2 o).2).1 :: (chF n (opT (opN 2 o).1 (opN 2 o).2).2).1, (chF n (opT (opN 2 o).1 (opN 2 o).2).2).2)
def chP (l : List Bys) : Bys := l.flatMap fun c => beN 2 c.length ++ c
theorem chF_ok : ∀ (l : List Bys) (r : Bys), (∀ c ∈ l, c.length < 65536) → chF l.length (chP l ++ r, false) = (l, (r, false))
  | [], _, _ => rfl
  | c :: l, r, h => by
    have hc := h c (by simp)
    have ih := chF_ok l r fun x hx => h x (by simp [hx])
    have e : chP (c :: l) ++ r = beN 2 c.length ++ (c ++ (chP l ++ r)) := by simp [chP]
    rw [List.length_cons, chF, if_neg (by simp), e, opN_ok (show c.length < 256 ^ 2 from hc)]
    simp only [opT_ok, ih]
/-- A stream: the root's bytes, and chunks. -/
structure Strm where
  root : Bys
  chunks : List Bys
def magicL : Bys := [65, 82, 83, 84]
def bodyF (x : Strm) : Bys := magicL ++ x.root ++ beN 2 x.chunks.length ++ chP x.chunks
def sumF (s : Bys) : Bys := beN 4 (crcF s).toNat
def putF (x : Strm) : Bys := bodyF x ++ sumF (bodyF x)
/-- What is parsed of a body, and whether it failed. -/
def parF (s : Bys) : Strm × Opn := (⟨(s.drop 4).take 32, (chF (beV ((s.drop 36).take 2)) (s.drop 38, false)).1⟩, (chF (beV ((s.drop 36).take 2)) (s.drop 38, false)).2)
theorem par_body {x : Strm} (hr : x.root.length = 32) (hn : x.chunks.length < 65536) (hc : ∀ c ∈ x.chunks, c.length < 65536) : parF (bodyF x) = (x, ([], false)) := by
  have e1 : (bodyF x).drop 4 = x.root ++ (beN 2 x.chunks.length ++ chP x.chunks) := by simp [bodyF, magicL]
  have e2 : (bodyF x).drop 36 = beN 2 x.chunks.length ++ chP x.chunks := by
    rw [show 36 = 4 + 32 from rfl, ← List.drop_drop, e1, ← hr, List.drop_left]
  have e3 : (bodyF x).drop 38 = chP x.chunks := by
    have : (beN 2 x.chunks.length ++ chP x.chunks).drop 2 = chP x.chunks := by
      have h := beN_length 2 x.chunks.length
      generalize beN 2 x.chunks.length = q at h ⊢
      rw [← h, List.drop_left]
    rw [show 38 = 36 + 2 from rfl, ← List.drop_drop, e2, this]
  have e4 : (beN 2 x.chunks.length ++ chP x.chunks).take 2 = beN 2 x.chunks.length := by
    have h := beN_length 2 x.chunks.length
    generalize beN 2 x.chunks.length = q at h ⊢
    rw [← h, List.take_left]
  have e5 : (x.root ++ (beN 2 x.chunks.length ++ chP x.chunks)).take 32 = x.root := by rw [← hr, List.take_left]
  have := chF_ok x.chunks [] hc
  rw [List.append_nil] at this
  unfold parF
  rw [e1, e2, e3, e4, e5, beV_beN 2 _ (show x.chunks.length < 256 ^ 2 from hn), this]
/-- Whether bytes' last four are their sum. -/
def sumOk (b : Bys) : Bool := decide (sumF (b.take (b.length - 4)) = b.drop (b.length - 4))
theorem sum_length (s : Bys) : (sumF s).length = 4 := beN_length 4 _
theorem sum_put (x : Strm) : sumOk (putF x) = true := by
  have h : (putF x).length - 4 = (bodyF x).length := by rw [putF, List.length_append, sum_length]; omega
  unfold sumOk
  rw [h, putF, List.take_left, List.drop_left]
  exact decide_eq_true rfl
theorem sum_inj {s t : Bys} (h : sumF s = sumF t) : crcF s = crcF t := by
  have h1 := congrArg beV h
  unfold sumF at h1
  rw [beV_beN 4 _ (show (crcF s).toNat < 256 ^ 4 from (crcF s).isLt), beV_beN 4 _ (show (crcF t).toNat < 256 ^ 4 from (crcF t).isLt)] at h1
  exact BitVec.eq_of_toNat_eq h1
/-- One byte of bytes with a sum is another one: the sum tells it. -/
theorem sum_one {a r : Bys} {c d : UInt8} (h : sumOk (a ++ c :: r) = true) (hl : 4 ≤ (a ++ c :: r).length) (h' : sumOk (a ++ d :: r) = true) : c = d := by
  unfold sumOk at h h'
  have h1 := of_decide_eq_true h
  have h2 := of_decide_eq_true h'
  have hle : (a ++ d :: r).length = (a ++ c :: r).length := by simp
  rw [hle] at h2
  generalize hk : (a ++ c :: r).length - 4 = k at h1 h2
  have hlen : (a ++ c :: r).length = a.length + (r.length + 1) := by simp
  by_cases ha : a.length < k
  · obtain ⟨m, hm⟩ : ∃ m, k = a.length + (m + 1) := ⟨k - a.length - 1, by omega⟩
    subst hm
    rw [List.take_length_add_append, List.drop_length_add_append, List.take_succ_cons, List.drop_succ_cons] at h1 h2
    exact crc_one a (r.take m) (sum_inj (h1.trans h2.symm))
  · have e1 : (a ++ c :: r).take k = (a ++ d :: r).take k := by
      rw [List.take_append_of_le_length (by omega), List.take_append_of_le_length (by omega)]
    rw [e1] at h1
    have h3 := h1.symm.trans h2
    have h4 := congrArg (fun l => l[a.length - k]?) h3
    simp only [List.getElem?_drop] at h4
    rw [show k + (a.length - k) = a.length by omega] at h4
    simpa using h4
end Go.Proofs.YtdkonngkbbgcgaaGreatDoor
