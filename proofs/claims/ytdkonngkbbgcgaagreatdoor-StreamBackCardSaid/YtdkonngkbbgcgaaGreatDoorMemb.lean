/- Bytes as strings. -/
import Derived.Test.YtdkonngkbbgcgaaGreatDoorEq
namespace Go.Eng
open Go.RowKit
variable {P : Program} {Q : Exit → Act → World → Prop} {N : Fm} {l : Slots} {H : World → Prop} {ops : Array Oper} {rest : List Oper} {w0 : World} {F : Nat → Prop} {m : List Item} {ty : TypeId} {pos : String} {after : Array Edge} {g : Option (Nat × Bool)} {d : Nat}
/-- string(b), b read as numbers; nil too. -/
def BytesAt (w : World) (sl : Option Addr) (L : Nat) (bs : Nat → Nat) : Prop := L = 0 ∨ ∃ b off, sl = some ⟨b, off, none⟩ ∧ ∀ i, i < L → w.cell? ⟨b, off + i, none⟩ = some (.int .u8 (bs i : Nat))
def strOf (L : Nat) (bs : Nat → Nat) : ByteArray := ⟨((List.range L).map fun i => UInt8.ofNat (bs i)).toArray⟩
theorem strOf_size (L : Nat) (bs : Nat → Nat) : (strOf L bs).size = L := by simp [strOf, ByteArray.size]
theorem strOf_at (L : Nat) (bs : Nat → Nat) (hb : ∀ i, bs i < 256) (i : Nat) (h : i < (strOf L bs).size) : ((strOf L bs)[i]).toNat = bs i := by
  have hi : i < L := by rwa [strOf_size] at h
  show (((List.range L).map fun i => UInt8.ofNat (bs i)).toArray[i]'(by simpa using hi)).toNat = bs i
  simp [Nat.mod_eq_of_lt (hb i)]
theorem v_tostrN {S T e : TypeId} {x : Operand} {sl : Option Addr} {n c : Nat} {bs : Nat → Nat} (hb : ∀ i, bs i < 256) (hx : evO l x = some (.slice sl n c)) (hs : P.underlying S = some (.slice e)) (he : P.underlying e = some (.int .u8)) (hd : P.underlying T = some .string)
    (hc : ∀ w, H w → BytesAt w sl n bs) : OV P (.convert S T x) ty l H (.string (strOf n bs)) := ov fun dst pos after w hw => by
  rcases hc w hw with rfl | ⟨b, off, rfl, hcell⟩
  · simp only [execOp, ev_of hx, Sem.run_bind, run_convert_bytes_string (P := P) w S T e sl 0 c hs he hd]
    cases sl <;> rfl
  · refine (v_tostr (H := fun w' => w' = w) (ty := ty) (bs := (List.range n).map fun i => UInt8.ofNat (bs i)) hx (by simp) hs he hd (fun w' hw' j hj => ?_)).run dst pos after w rfl
    subst hw'
    have hj' : j < n := by simpa using hj
    have ha : (⟨b, off, none⟩ : Addr).add j = ⟨b, off + j, none⟩ := by unfold Addr.add; split <;> simp_all
    rw [ha, hcell j hj']
    simp [Nat.mod_eq_of_lt (hb j)]
theorem BytesAt.keep {w : World} {sl : Option Addr} {L : Nat} {bs : Nat → Nat} (h : BytesAt w0 sl L bs) (hw : Hp w0 none' m w) : BytesAt w sl L bs := by
  rcases h with h | ⟨b, off, h1, h2⟩
  · exact .inl h
  · exact .inr ⟨b, off, h1, fun i hi => hw.old (fun h => h) (h2 i hi)⟩
theorem leafEq_refl {t : TypeId} {v : Value} (h : leafFit P t v = true) : leafEq v v = true := by
  unfold leafFit at h
  split at h
  · simp [leafEq]
  · simp [leafEq]
  · simp only [leafEq]; rw [beq_toListBytes]; simp
  · cases h
theorem rowEq_refl {ts : List TypeId} : ∀ {vs : List Value}, fitAll P ts vs → rowEq vs vs = true := by
  induction ts with
  | nil => intro vs h; simp only [fitAll] at h; subst h; rfl
  | cons t ts ih =>
    intro vs h
    match vs, h with
    | v :: vs, h =>
      simp only [fitAll] at h
      simp only [rowEq, ih h.2, Bool.and_true]
      exact leafEq_refl h.1
end Go.Eng
