/- Items by their places; calls of function values that take items over. Own work; no condition. -/
import Derived.Test.YtdkonngkbbgcgaaGreatDoorBld
namespace Go.Eng
open Go.RowKit
variable {P : Program} {Q : Exit → Act → World → Prop} {N : Fm} {l : Slots} {H : World → Prop} {ops : Array Oper} {rest : List Oper} {w0 : World} {F : Nat → Prop} {m m' : List Item} {ty : TypeId} {pos : String} {after : Array Edge} {g : Option (Nat × Bool)} {d : Nat}
def pickI (m : List Item) : List Nat → Option (List Item)
  | [] => some []
  | i :: r => match nth m i, pickI m r with
    | some x, some L => some (x :: L)
    | _, _ => none
def distB : List Nat → Bool
  | [] => true
  | i :: r => !isIn r i && distB r
theorem isIn_iff : ∀ {L : List Nat} {i : Nat}, isIn L i = true ↔ i ∈ L
  | [], _ => by simp [isIn]
  | x :: r, i => by
    simp only [isIn, Bool.or_eq_true, List.mem_cons, isIn_iff (L := r)]
    constructor
    · rintro (h | h)
      · exact .inl (Nat.eq_of_beq_eq_true h).symm
      · exact .inr h
    · rintro (rfl | h)
      · exact .inl (Nat.beq_refl _)
      · exact .inr h
theorem pickI_mem : ∀ {is : List Nat} {m' : List Item}, pickI m is = some m' → ∀ x ∈ m', ∃ i ∈ is, m[i]? = some x
  | [], m', h, x, hx => by simp only [pickI, Option.some.injEq] at h; subst h; cases hx
  | i :: r, m', h, x, hx => by
    simp only [pickI] at h
    split at h
    · rename_i y L h1 h2
      simp only [Option.some.injEq] at h
      subst h
      rcases List.mem_cons.1 hx with rfl | hx
      · exact ⟨i, by simp, by rw [← nth_eq]; exact h1⟩
      · obtain ⟨j, hj, h3⟩ := pickI_mem h2 x hx
        exact ⟨j, by simp [hj], h3⟩
    · cases h
theorem pickI_apart (hm : m.Pairwise Item.Apart) : ∀ {is : List Nat} {m' : List Item}, distB is = true → pickI m is = some m' → m'.Pairwise Item.Apart
  | [], m', _, h => by simp only [pickI, Option.some.injEq] at h; subst h; exact .nil
  | i :: r, m', hd, h => by
    simp only [distB, Bool.and_eq_true, Bool.not_eq_true'] at hd
    simp only [pickI] at h
    split at h
    · rename_i y L h1 h2
      simp only [Option.some.injEq] at h
      subst h
      refine List.pairwise_cons.2 ⟨fun z hz => ?_, pickI_apart hm hd.2 h2⟩
      obtain ⟨j, hj, h3⟩ := pickI_mem h2 z hz
      have hij : i ≠ j := fun e => by
        subst e
        have := isIn_iff.2 hj
        rw [hd.1] at this; cases this
      rw [nth_eq] at h1
      obtain ⟨a1, a2⟩ := List.getElem?_eq_some_iff.1 h1
      obtain ⟨b1, b2⟩ := List.getElem?_eq_some_iff.1 h3
      rcases Nat.lt_or_gt_of_ne hij with hlt | hlt
      · have := List.pairwise_iff_getElem.1 hm i j a1 b1 hlt
        rwa [a2, b2] at this
      · have := List.pairwise_iff_getElem.1 hm j i b1 a1 hlt
        rw [a2, b2] at this
        exact fun k h h' => this k h' h
    · cases h
theorem Hp.pick {w : World} (hw : Hp w0 F m w) (is : List Nat) (hd : distB is = true) (h : pickI m is = some m') : Hp w0 F m' w :=
  ⟨hw.fr, fun it hm => by obtain ⟨i, -, hi⟩ := pickI_mem h it hm; exact hw.item it (List.mem_of_getElem? hi), pickI_apart hw.apart hd h⟩
theorem l_pick (is : List Nat) (hd : distB is = true) (h : pickI m is = some m') (k : HL P ops Q N rest l (Hp w0 F m')) : HL P ops Q N rest l (Hp w0 F m) := l_imp (fun _ hw => hw.pick is hd h) k
theorem t_pick {c : Code} (is : List Nat) (hd : distB is = true) (h : pickI m is = some m') (k : HT P c Q N l (Hp w0 F m')) : HT P c Q N l (Hp w0 F m) := t_imp (fun _ hw => hw.pick is hd h) k
theorem x_pick {e : Exit} (is : List Nat) (hd : distB is = true) (h : pickI m is = some m') (k : HX Q e N l (Hp w0 F m')) : HX Q e N l (Hp w0 F m) := x_imp (fun _ hw => hw.pick is hd h) k
theorem d_pick {S : World → Prop} {t n : Nat} {listed : Array Bool} (is : List Nat) (hd : distB is = true) (h : pickI m is = some m') (k : HD P ops Q S t N n listed l (Hp w0 F m')) : HD P ops Q S t N n listed l (Hp w0 F m) := by
  unfold HD at *; exact fun inv a w s hw => k inv a w s (hw.pick is hd h)
theorem ho_pick {o : Oper} {α : Type} {l' : α → Slots} {H' : α → World → Prop} (is : List Nat) (hd : distB is = true) (h : pickI m is = some m') (k : HO P o Q N l (Hp w0 F m') l' H') : HO P o Q N l (Hp w0 F m) l' H' := by
  unfold HO at *; exact fun a w s hw => k a w s (hw.pick is hd h)
/-- What lies in old memory and is not given over lies in no item. -/
theorem Hp.out {w : World} (hw : Hp w0 F m w) {b : Nat} (hb : b < w0.heap.size) (hF : ¬ F b) : ¬ foots m b := fun ⟨it, hm, hk⟩ => hF ((hw.item it hm).2.2 b hk |>.2 hb)
theorem Gh.In.lt {h : Gh} {w : World} (hi : h.In w) {b : Nat} (hb : (h b).isSome = true) : b < w.heap.size := by
  obtain ⟨o, ho⟩ := Option.isSome_iff_exists.1 hb
  exact (Array.getElem?_eq_some_iff.1 (hi b o ho)).1
theorem Gh.In.out {h : Gh} {w : World} (hi : h.In w0) (hF : ∀ b, (h b).isSome = true → ¬ F b) (hw : Hp w0 F m w) : ∀ b, (h b).isSome = true → ¬ foots m b := fun b hb => hw.out (hi.lt hb) (hF b hb)
theorem foots_left {L M : List Item} {b : Nat} (h : ¬ foots (L ++ M) b) : ¬ foots L b := fun ⟨it, hm, hk⟩ => h ⟨it, by simp [hm], hk⟩
/-- A function value's call that takes the items 'pre' over. -/
theorem o_cuF {f : FuncId} {x : Operand} {fs cs : List Value} {xs : List Operand} {tys : Array TypeId} {vs us : List Value} {pre : List Item} {α : Type} {val : α → Value} {φ : α → Prop} {its : α → List Item}
    (hok : okOp N l (.call ⟨.value x, xs.toArray, tys⟩) d = true) (hb : hasBody P f = true) (hf : evO l x = some (.func (.func f) fs.toArray cs.toArray)) (hx : evs l xs = some vs) (hu : fs ++ (vs ++ cs) = us) (hst : ∀ it ∈ pre, it.Stable none')
    (hc : ∀ w, Hp w0 F (pre ++ m) w → (∀ it ∈ pre, Here it w) → pre.Pairwise Item.Apart → Ct P f us.toArray w (foots pre) val φ its) :
    HO P ⟨some d, .call ⟨.value x, xs.toArray, tys⟩, ty, pos, after, g⟩ Q N l (Hp w0 F (pre ++ m)) (α := { x : α // φ x }) (fun x => (d, val x.1) :: l) (fun x => Hp w0 F (its x.1 ++ m)) :=
  o_call (val := fun x : { x : α // φ x } => val x.1) hok (entersF hf hb hx hu) (fun w hw => (Ct.calls (hc w hw (fun it hm => have h := hw.item it (List.mem_append_left _ hm); ⟨h.1, hst it hm, fun k hk => (h.2.2 k hk).1⟩) (List.pairwise_append.1 hw.apart).1)).mono fun _ _ ⟨x, he, hx, hi⟩ => ⟨⟨x, hx⟩, he, hw.call hi fun _ _ ⟨it, hm, hk⟩ => ⟨it, hm, hk⟩⟩)
/-- A function value's call that hands over items. -/
theorem o_ctF {f : FuncId} {x : Operand} {fs cs : List Value} {xs : List Operand} {tys : Array TypeId} {vs us : List Value} {α : Type} {val : α → Value} {φ : α → Prop} {its : α → List Item}
    (hok : okOp N l (.call ⟨.value x, xs.toArray, tys⟩) d = true) (hb : hasBody P f = true) (hf : evO l x = some (.func (.func f) fs.toArray cs.toArray)) (hx : evs l xs = some vs) (hu : fs ++ (vs ++ cs) = us)
    (hc : ∀ w, Hp w0 F m w → Ct P f us.toArray w none' val φ its) :
    HO P ⟨some d, .call ⟨.value x, xs.toArray, tys⟩, ty, pos, after, g⟩ Q N l (Hp w0 F m) (α := { x : α // φ x }) (fun x => (d, val x.1) :: l) (fun x => Hp w0 F (its x.1 ++ m)) :=
  o_call (val := fun x : { x : α // φ x } => val x.1) hok (entersF hf hb hx hu) (fun w hw => (Ct.calls (hc w hw)).mono fun _ _ ⟨x, he, hx, hi⟩ => ⟨⟨x, hx⟩, he, hw.call0 hi⟩)
/-- A region that draws: what the operations that only tell a value may lean on, the items in 'm''; number t is the last. -/
theorem t_drawm {id : Nat} {r : List Oper} (is : List Nat) (t : Nat) (hd : distB is = true) (hp : pickI m is = some m') (hm : drawOk P r = true) (h : HD P r.toArray Q (Hp w0 F m') t N r.length (Array.replicate r.length false) l (Hp w0 F m)) : HT P (.region id r.toArray true) Q N l (Hp w0 F m) := by
  unfold HT HD at *
  intro a w s hw
  simp only [drawOk, Bool.and_eq_true, List.all_eq_true] at hm
  refine wpIn_mono (wpIn_region_any (Q := calm Q) hm.1 (any_in (by simpa using hm.2) calm_out N.r _ _ _ _ (wpAny_of_K (S := Hp w0 F m') (t := t) _ _ _ _ ?_))) (fun _ _ _ h => calm_le h)
  have := h (by simpa using headInv_start r.toArray t) a w.drew s hw.drew
  simpa using this
end Go.Eng
