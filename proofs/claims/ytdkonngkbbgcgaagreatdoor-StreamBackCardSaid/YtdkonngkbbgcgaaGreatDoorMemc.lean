/- A guarded operation of a region that draws. -/
import Derived.Test.YtdkonngkbbgcgaaGreatDoorEng
namespace Go.Eng
open Go.RowKit
variable {P : Program} {Q : Exit → Act → World → Prop} {N : Fm} {l : Slots} {H : World → Prop} {ops : Array Oper} {S : World → Prop} {t : Nat}
/-- An operation that turns memory, its guard let it run, nothing else may come up. -/
theorem d_opg (i : Nat) {dst : Option Tmp} {op : Op} {ty : TypeId} {pos : String} {after : Array Edge} {g : Option (Nat × Bool)} {n : Nat} {listed : Array Bool} {α : Type} {l' : α → Slots} {H' : α → World → Prop} (hr0 : Region.ready .any ops listed = [i] ∧ i < t) (hi0 : nth ops.toList i = some ⟨dst, op, ty, pos, after, g⟩) (hg : okG ops l g = true)
    (h : HO P ⟨dst, op, ty, pos, after, g⟩ (calm Q) N l H l' H') (hS : ∀ x w, H' x w → S w) (k : ∀ x, HD P ops Q S t N n (listed.setIfInBounds i true) (l' x) (H' x)) : HD P ops Q S t N (n + 1) listed l H := by
  unfold HD HO at *
  intro inv a w s hw
  have hi := nth_ops hi0
  obtain ⟨hr, hlt⟩ := hr0
  have hm : i ∈ Region.ready .any ops listed := by rw [hr]; simp
  refine ⟨fun h => (by rw [hr] at h; cases h), fun j hj => ?_⟩
  obtain rfl : j = i := by rw [hr] at hj; simpa using hj
  unfold wpOp
  simp only [hi]
  rw [if_pos (okG_spec s hg)]
  exact .inl (And.right <| h a w s hw _ fun x a' w' s' hw' => ⟨fun _ => hS x w' hw', k x (inv.set hm hlt) a' w' s' hw'⟩)
theorem wpAnyK_strong {S' : World → Prop} (hS : ∀ w, S' w → S w) : ∀ (n : Nat) (listed : Array Bool) (a : Act) (w : World), wpAnyK P ops Q S' t n listed a w → wpAnyK P ops Q S t n listed a w
  | 0, _, _, _, h => h
  | n + 1, _, _, _, h => ⟨h.1, fun i hi => wpOp_mono (fun a' w' h' => ⟨fun hn => hS _ (h'.1 hn), wpAnyK_strong hS n _ a' w' h'.2⟩) (h.2 i hi)⟩
/-- More is known of all worlds to come. -/
theorem d_up {n : Nat} {listed : Array Bool} (hS : ∀ w, H w → S w) (k : HD P ops Q H t N n listed l H) : HD P ops Q S t N n listed l H := by
  unfold HD at *
  exact fun inv a w s hw => wpAnyK_strong hS _ _ _ _ (k inv a w s hw)
end Go.Eng
