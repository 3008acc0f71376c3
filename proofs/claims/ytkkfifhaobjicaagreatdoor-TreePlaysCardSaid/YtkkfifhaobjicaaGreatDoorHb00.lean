/- A small calculus over the guide's wp rules: what is zem of a frame is a list of slots, what is zem of memory is a list of items with footprints. Own work; no condition. -/
import Derived.WalkKit
import Derived.Deep.MidRow
import Derived.StillTail
import Derived.RangeFuncIn
import Derived.OrdersIn
import Derived.RangeFuncCalls
import Derived.Sort.LoopGhostIn
namespace Go.Eng
open Go.RowKit
/-! ### Frames -/
abbrev zat := List (Nat × Value)
def get : zat → Nat → Option Value
 | [], _ => none
 | (k, v) :: r, t => bif Nat.beq k t then some v else get r t
def ev (l : zat) : Operand → Value
 | .tmp t => (get l t).getD undef
 | .const v => v
 | .global g => .pointer (some ⟨g, 0, none⟩)
 | .func f => .func (.func f) #[] #[]
def evO (l : zat) : Operand → Option Value
 | .tmp t => get l t
 | .const v => some v
 | .global g => some (.pointer (some ⟨g, 0, none⟩))
 | .func f => some (.func (.func f) #[] #[])
theorem zax {l : zat} {x : Operand} {v : Value} (h : evO l x = some v) : ev l x = v := by
 cases x <;> simp_all [evO, ev]
def zek (l : zat) : Operand → Bool
 | .tmp t => (get l t).isSome
 | _ => true
def zem (l : zat) (o : Op) : Bool := o.operands.toList.all (zek l)
structure Fm where
 n : Nat
 ds : List Deferred
 /-- The record of the round that the frame is of. -/
 r : Option Nat
def zej (D : Nat) : Deferred := { target := .collected D, args := #[] }
structure St (N : Fm) (l : zat) (a : Act) : Prop where
 size : a.tmps.size = N.n
 defers : a.defers = N.ds
 slot : ∀ t v, get l t = some v → a.tmps[t]? = some v
theorem St.eval {N : Fm} {l : zat} {a : Act} (s : St N l a) {x : Operand} (h : zek l x = true) : a.eval x = ev l x := by
 cases x with
 | tmp t =>
  simp only [zek] at h
  obtain ⟨v, hv⟩ := Option.isSome_iff_exists.1 h
  have := s.slot t v hv
  simp [Act.eval, ev, hv, this]
 | _ => rfl
theorem St.exec {N : Fm} {l : zat} {a : Act} (s : St N l a) (o : Oper) (hs : ∀ cs b, o.op ≠ .select cs b) (h : zem l o.op = true) : execOp a.eval o = execOp (ev l) o :=
 execOp_congr o hs fun x hx => s.eval (by
  simp only [zem, List.all_eq_true] at h
  exact h x (by simpa using hx))
theorem zbi (l : zat) (k t : Nat) (v : Value) : get ((k, v) :: l) t = if k = t then some v else get l t := by
 simp only [get]
 by_cases h : k = t
 ·subst h; simp
 ·have : Nat.beq k t = false := by cases hb : Nat.beq k t with | false => rfl | true => exact absurd (Nat.eq_of_beq_eq_true hb) h
  simp [h, this]
theorem St.put {N : Fm} {l : zat} {a : Act} (s : St N l a) {d : Nat} (hd : d < N.n) (v : Value) : St N ((d, v) :: l) (a.put (some d) v) := by
 refine ⟨by simp [Act.put, s.size], s.defers, fun t u h => ?_⟩
 rw [zbi] at h
 by_cases e : d = t
 ·subst e
  rw [if_pos rfl] at h
  simp [Act.put, s.size, hd, ← Option.some.inj h]
 ·rw [if_neg e] at h
  simp only [Act.put]
  rw [Array.getElem?_setIfInBounds_ne e]
  exact s.slot t u h
theorem St.sub {N : Fm} {l l' : zat} {a : Act} (s : St N l a) (h : ∀ p ∈ l', get l p.1 = some p.2) : St N l' a := by
 refine ⟨s.size, s.defers, fun t v hv => ?_⟩
 have : ∀ l' : zat, (∀ p ∈ l', get l p.1 = some p.2) → get l' t = some v → get l t = some v := by
  intro l'
  induction l' with
  | nil => intro _ h; simp [get] at h
  | cons p r ih =>
   intro hp hg
   obtain ⟨k, u⟩ := p
   rw [zbi] at hg
   by_cases e : k = t
   ·subst e
    rw [if_pos rfl] at hg
    have := hp (k, u) (by simp)
    rw [← hg]; exact this
   ·rw [if_neg e] at hg
    exact ih (fun p hm => hp p (by simp [hm])) hg
 exact s.slot t v (this l' h hv)
/-! ### Judgements -/
section
variable {P : Program}
def fw (r : Option Nat) : Fence := { Fence.wide with round := r }
theorem zjw (r : Option Nat) : (fw r).depth.isSome = true → 1 ≤ 0 := fun h => by cases h
def WP (P : Program) (r : Option Nat) (c : Code) (Q : Exit → Act → World → Prop) (a : Act) (w : World) : Prop := c.wpIn (fw r) 0 P Q a w
theorem WP.wp {c : Code} {Q : Exit → Act → World → Prop} {a : Act} {w : World} (h : WP P none c Q a w) : c.wp P Q a w := wpIn_wide.1 h
theorem WP.mono {r : Option Nat} {c : Code} {Q Q' : Exit → Act → World → Prop} {a : Act} {w : World} (hq : ∀ e a w, Q e a w → Q' e a w) (h : WP P r c Q a w) : WP P r c Q' a w := wpIn_mono h hq
def zyj (op : Op) : Bool := match op with | .defer _ => false | _ => true
theorem zly {op : Op} (h : zyj op = true) : ∀ c, op ≠ .defer c := fun c e => by subst e; cases h
theorem qim {o : Oper} {a : Act} {w : World} {K : Act → World → Prop} {Q : Exit → Act → World → Prop} (hd : zyj o.op = true) (h : o.wp P a w K Q) (r : Option Nat) : o.wpIn (fw r) 0 P a w K Q := by
 refine ⟨fun _ _ => trivial, ?_⟩
 rw [Oper.semAt_eq _ _ _ (zly hd)]
 unfold Oper.wp at h
 generalize (execOp a.eval o).run P w = res at h ⊢
 cases res with
 | ok n w' =>
  cases n with
  | value v => exact h
  | skip => exact h
  | defer d => exact h
  | enter f args =>
   have h1 : CallsIn (fw r) 0 P f args w' _ := (callsIn_wide (n := 0)).2 h
   exact ⟨zjw r, h1.mono fun e w'' he => by cases e <;> exact he⟩
  | row s args => exact ⟨zjw r, fun c cs _ => let ⟨v, w', x, s⟩ := h c cs; ⟨v, w', x, stepsIn_wide.2 s⟩⟩
  | _ => exact h.elim
 | halt x w' => cases x <;> exact h
theorem qak {ops : Array Oper} {Q : Exit → Act → World → Prop} (hd : ∀ o ∈ ops.toList, zyj o.op = true) (hq : ¬ LetsOut Q) (r : Option Nat) : ∀ (n : Nat) (listed : Array Bool) (a : Act) (w : World), wpAny P .any ops Q n listed a w → wpAnyIn (fw r) 0 P .any ops Q n listed a w
 | 0, _, _, _, h => h
 | n + 1, listed, a, w, h => ⟨h.1, fun i hi => by
  have h1 := wpOp_mono (fun a' w' h' => qak hd hq r n (listed.setIfInBounds i true) a' w' h') (h.2 i hi)
  unfold wpOp at h1
  unfold wpOpIn
  split
  ·rename_i e; rw [e] at h1; exact h1
  ·rename_i o e
   rw [e] at h1
   simp only [] at h1
   split
   ·rename_i hw
    rw [if_pos hw] at h1
    exact qim (hd o (by simpa using Array.mem_of_getElem? e)) (h1.resolve_right fun x => hq x.2) r
   ·rename_i hw
    rw [if_neg hw] at h1
    exact ⟨fun _ _ => trivial, h1⟩⟩
def HL (P : Program) (ops : Array Oper) (Q : Exit → Act → World → Prop) (N : Fm) (rest : List Oper) (l : zat) (H : World → Prop) : Prop :=
 ∀ a w, St N l a → H w → wpListIn (fw N.r) 0 P ops Q rest a w
def HT (P : Program) (c : Code) (Q : Exit → Act → World → Prop) (N : Fm) (l : zat) (H : World → Prop) : Prop :=
 ∀ a w, St N l a → H w → WP P N.r c Q a w
def HX (Q : Exit → Act → World → Prop) (e : Exit) (N : Fm) (l : zat) (H : World → Prop) : Prop :=
 ∀ a w, St N l a → H w → Q e a w
variable {Q : Exit → Act → World → Prop} {N : Fm} {l l' : zat} {H H' : World → Prop} {ops : Array Oper} {rest : List Oper} {o : Oper}
/- code -/
theorem zv6 {n : Nat} {ds : List Deferred} {r : Option Nat} {x y : Code} (h : HT P x (Exit.then (WP P r y Q) Q) ⟨n, ds, r⟩ l H) : HT P (.seq x y) Q ⟨n, ds, r⟩ l H := fun a w s hw => wpIn_seq (h a w s hw)
theorem zsq {id : Nat} {r : List Oper} (h : HL P r.toArray Q N r l H) : HT P (.region id r.toArray false) Q N l H := fun a w s hw => wpIn_region_lit (h a w s hw)
theorem zx0 {id : Nat} {c : Code} (h : HT P c (Exit.inBlock id Q) N l H) : HT P (.block id c) Q N l H := fun a w s hw => wpIn_block (h a w s hw)
theorem qmp (h : HX Q .ret N l H) : HT P .ret Q N l H := fun a w s hw => wpIn_ret (h a w s hw)
theorem qe0 (h : HX Q .normal N l H) : HT P .skip Q N l H := fun a w s hw => wpIn_skip (h a w s hw)
theorem qdh {id : Nat} (h : HX Q (.exit id) N l H) : HT P (.exit id) Q N l H := fun a w s hw => wpIn_exit (h a w s hw)
theorem zpi {c : Operand} {x y : Code} (b : Bool) (hk : zek l c = true) (hc : evO l c = some (.bool b)) (ht : b = true → HT P x Q N l H) (hf : b = false → HT P y Q N l H) : HT P (.cond c x y) Q N l H := fun a w s hw =>
 wpIn_cond_split (by rw [s.eval hk, zax hc]) (fun h => ht h a w s hw) (fun h => hf h a w s hw)
theorem qn4 {c : Operand} {x y : Code} {b : Bool} (hk : zek l c = true) (hc : evO l c = some (.bool b)) (hb : b = true) (ht : HT P x Q N l H) : HT P (.cond c x y) Q N l H := fun a w s hw =>
 wpIn_cond_true (by rw [s.eval hk, zax hc, hb]) (ht a w s hw)
theorem qkp {c : Operand} {x y : Code} {b : Bool} (hk : zek l c = true) (hc : evO l c = some (.bool b)) (hb : b = false) (hf : HT P y Q N l H) : HT P (.cond c x y) Q N l H := fun a w s hw =>
 wpIn_cond_false (by rw [s.eval hk, zax hc, hb]) (hf a w s hw)
theorem zk4 {r : Option Nat} {c : Code} {α : Type} (I : α → Act → World → Prop) (μ : α → Nat)
  (round : ∀ x a w, I x a w → WP P r c (Exit.then (fun a' w' => ∃ y, I y a' w' ∧ μ y < μ x) Q) a w) (x : α) (a : Act) (w : World) (h₀ : I x a w) : WP P r (Code.loop c) Q a w := by
 refine wpIn_loop_ghost (fun n a w => ∃ x, μ x = n ∧ I x a w) (μ x) ⟨x, rfl, h₀⟩ fun n a w ⟨x, hn, hx⟩ => ?_
 refine wpIn_mono (round x a w hx) fun e a' w' q => ?_
 cases e with
 | normal => obtain ⟨y, hy, hlt⟩ := q; exact ⟨μ y, hn ▸ hlt, y, rfl, hy⟩
 | _ => exact q
def ql7 {α : Type} (N : Fm) (L : α → zat) (I : α → World → Prop) (μ : α → Nat) (x : α) (a : Act) (w : World) : Prop := ∃ y, (St N (L y) a ∧ I y w) ∧ μ y < μ x
theorem qoh {c : Code} {α : Type} (L : α → zat) (I : α → World → Prop) (μ : α → Nat) (x₀ : α) (h₀ : ∀ p ∈ L x₀, get l p.1 = some p.2) (hI : ∀ w, H w → I x₀ w)
  (round : ∀ x, HT P c (Exit.then (ql7 N L I μ x) Q) N (L x) (I x)) : HT P (.loop c) Q N l H := fun a w s hw =>
 zk4 (fun x a w => St N (L x) a ∧ I x w) μ (fun x a w ⟨sx, hx⟩ => round x a w sx hx) x₀ a w ⟨s.sub h₀, hI w hw⟩
theorem qmf {α : Type} {L : α → zat} {I : α → World → Prop} {μ : α → Nat} {x : α} (y : α) (hl : ∀ p ∈ L y, get l p.1 = some p.2) (hI : ∀ w, H w → I y w) (hm : μ y < μ x) : HX (Exit.then (ql7 N L I μ x) Q) .normal N l H :=
 fun _ w s hw => ⟨y, ⟨s.sub hl, hI w hw⟩, hm⟩
/- exits -/
theorem zm3 {n : Nat} {ds : List Deferred} {r : Option Nat} {y : Code} (h : HT P y Q ⟨n, ds, r⟩ l H) : HX (Exit.then (WP P r y Q) Q) .normal ⟨n, ds, r⟩ l H := h
theorem zj5 {K : Act → World → Prop} {id : Nat} (h : HX Q (.exit id) N l H) : HX (Exit.then K Q) (.exit id) N l H := h
theorem zmf {K : Act → World → Prop} (h : HX Q .ret N l H) : HX (Exit.then K Q) .ret N l H := h
theorem zkc {id : Nat} (h : HX Q .ret N l H) : HX (Exit.inBlock id Q) .ret N l H := h
theorem zg6 {id : Nat} (h : HX Q .normal N l H) : HX (Exit.inBlock id Q) .normal N l H := h
theorem zi3 {id : Nat} (h : HX Q .normal N l H) : HX (Exit.inBlock id Q) (.exit id) N l H := fun a w s hw => by
 simp only [Exit.inBlock, if_true]; exact h a w s hw
theorem zj1 {id id' : Nat} (hne : Nat.beq id' id = false) (h : HX Q (.exit id') N l H) : HX (Exit.inBlock id Q) (.exit id') N l H := fun a w s hw => by
 have : id' ≠ id := by intro e; subst e; simp at hne
 simp only [Exit.inBlock, if_neg this]; exact h a w s hw
/- weaker knowledge -/
theorem qnd (l' : zat) (H' : World → Prop) (hl : ∀ p ∈ l', get l p.1 = some p.2) (hH : ∀ w, H w → H' w) {e : Exit} (h : HX Q e N l' H') : HX Q e N l H :=
 fun a w s hw => h a w (s.sub hl) (hH w hw)
/- lists of operations -/
theorem zye (h : HX Q .normal N l H) : HL P ops Q N [] l H := fun a w s hw => wpListIn_nil (h a w s hw)
def zg7 : Op → Bool
 | .select _ _ | .defer _ => false
 | _ => true
def zfj (N : Fm) (l : zat) (op : Op) (d : Nat) : Bool := zg7 op && (Nat.ble (d + 1) N.n && zem l op)
theorem zpb {op : Op} (h : zg7 op = true) : zyj op = true := by cases op <;> first | rfl | cases h
theorem zls {op : Op} (h : zg7 op = true) : ∀ cs b, op ≠ .select cs b := fun cs b e => by subst e; cases h
theorem zk1 {d : Nat} {op : Op} (h : zfj N l op d = true) : zyj op = true := by simp only [zfj, Bool.and_eq_true] at h; exact zpb h.1
theorem zeq {d : Nat} {op : Op} (h : zfj N l op d = true) : (∀ cs b, op ≠ .select cs b) ∧ d < N.n ∧ zem l op = true := by
 simp only [zfj, Bool.and_eq_true] at h
 exact ⟨zls h.1, Nat.le_of_ble_eq_true h.2.1, h.2.2⟩
def OV (P : Program) (op : Op) (ty : TypeId) (l : zat) (H : World → Prop) (v : Value) : Prop :=
 ∀ d pos after w, H w → (execOp (ev l) ⟨d, op, ty, pos, after, none⟩).run P w = .ok (.value v) w
def HO (P : Program) (o : Oper) (Q : Exit → Act → World → Prop) (N : Fm) (l : zat) (H : World → Prop) {α : Type} (l' : α → zat) (H' : α → World → Prop) : Prop :=
 ∀ a w, St N l a → H w → ∀ K : Act → World → Prop, (∀ x a' w', St N (l' x) a' → H' x w' → K a' w') → zyj o.op = true ∧ o.wp P a w K Q
theorem zjf (ρ : Operand → Value) (d d' : Option Tmp) (op : Op) (ty : TypeId) (pos pos' : String) (after after' : Array Edge) (g g' : Option (Nat × Bool)) :
  execOp ρ ⟨d, op, ty, pos, after, g⟩ = execOp ρ ⟨d', op, ty, pos', after', g'⟩ := rfl
def evs (l : zat) : List Operand → Option (List Value)
 | [] => some []
 | x :: r => match evO l x, evs l r with
  | some v, some vs => some (v :: vs)
  | _, _ => none
theorem zhz {l : zat} : ∀ {xs : List Operand} {vs : List Value}, evs l xs = some vs → xs.map (ev l) = vs
 | [], _, h => by simp [evs] at h; simp [← h]
 | x :: r, vs, h => by
  simp only [evs] at h
  split at h
  ·rename_i v vs' h1 h2
   simp only [Option.some.injEq] at h
   rw [List.map_cons, zax h1, zhz h2, h]
  ·cases h
def zb9 (P : Program) (f : FuncId) : Bool := match P.funcs[f]? with
 | some fn => !(fn.name == "runtime.NumGoroutine") && !fn.body.isNone
 | none => false
theorem zdo {f : FuncId} (h : zb9 P f = true) (args : Array Value) (w : World) : (callFunc f args).run P w = .ok (.enter f args) w := by
 unfold zb9 at h
 cases hf : P.funcs[f]? with
 | none => simp [hf] at h
 | some fn =>
  simp only [hf, Bool.and_eq_true, Bool.not_eq_true'] at h
  have hp : (program).run P w = .ok P w := rfl
  unfold callFunc
  simp only [Sem.run_bind, hp, Result.andThen_ok, hf, h.1, h.2]
  rfl
theorem qgx {f : FuncId} {xs : List Operand} {vs : List Value} {tys : Array TypeId} {d : Option Tmp} {ty : TypeId} {pos : String} {after : Array Edge} {g : Option (Nat × Bool)} (hb : zb9 P f = true) (hx : evs l xs = some vs) (w : World) :
  (execOp (ev l) ⟨d, .call ⟨.value (.func f), xs.toArray, tys⟩, ty, pos, after, g⟩).run P w = .ok (.enter f vs.toArray) w := by
 simp only [execOp, resolve, Deferred.ofValue, ev, List.map_toArray, zhz hx]
 simp [invoke, zdo hb]
theorem zyx {f : FuncId} {x : Operand} {fs cs : List Value} {xs : List Operand} {vs us : List Value} {tys : Array TypeId} {d : Option Tmp} {ty : TypeId} {pos : String} {after : Array Edge} {g : Option (Nat × Bool)} (hf : evO l x = some (.func (.func f) fs.toArray cs.toArray)) (hb : zb9 P f = true) (hx : evs l xs = some vs) (hu : fs ++ (vs ++ cs) = us) (w : World) :
  (execOp (ev l) ⟨d, .call ⟨.value x, xs.toArray, tys⟩, ty, pos, after, g⟩).run P w = .ok (.enter f us.toArray) w := by
 simp only [execOp, resolve, Deferred.ofValue, zax hf, List.map_toArray, zhz hx]
 simp [invoke, zdo hb, ← hu]
section plainop
variable {op : Op} {ty : TypeId} {pos : String} {after : Array Edge} {g : Option (Nat × Bool)}
theorem qey {d : Nat} {v : Value} (hok : zfj N l op d = true) (hv : OV P op ty l H v) : HO P ⟨some d, op, ty, pos, after, g⟩ Q N l H (α := Unit) (fun _ => (d, v) :: l) (fun _ => H) := by
 obtain ⟨hs, hN, hk⟩ := zeq hok
 intro a w s hw K hK
 refine ⟨zk1 hok, ?_⟩
 unfold Oper.wp
 rw [s.exec _ hs hk, zjf _ _ none _ _ _ "" _ #[] _ none, hv none "" #[] w hw]
 exact hK () _ _ (s.put hN v) hw
theorem zhr {d : Nat} {α : Type} {val : α → Value} {H' : α → World → Prop} (hok : zfj N l op d = true) (hr : ∀ w, H w → ∃ x w', (execOp (ev l) ⟨some d, op, ty, pos, after, g⟩).run P w = .ok (.value (val x)) w' ∧ H' x w') :
  HO P ⟨some d, op, ty, pos, after, g⟩ Q N l H (fun x => (d, val x) :: l) H' := by
 obtain ⟨hs, hN, hk⟩ := zeq hok
 intro a w s hw K hK
 refine ⟨zk1 hok, ?_⟩
 obtain ⟨x, w', hr, hw'⟩ := hr w hw
 unfold Oper.wp
 rw [s.exec _ hs hk, hr]
 exact hK x _ _ (s.put hN (val x)) hw'
theorem zug {α : Type} {H' : α → World → Prop} (hok : (zg7 op && zem l op) = true) (hr : ∀ w, H w → ∃ x w', (execOp (ev l) ⟨none, op, ty, pos, after, g⟩).run P w = .ok .skip w' ∧ H' x w') :
  HO P ⟨none, op, ty, pos, after, g⟩ Q N l H (fun _ => l) H' := by
 simp only [Bool.and_eq_true] at hok
 intro a w s hw K hK
 refine ⟨zpb hok.1, ?_⟩
 obtain ⟨x, w', hr, hw'⟩ := hr w hw
 unfold Oper.wp
 rw [s.exec _ (zls hok.1) hok.2, hr]
 exact hK x _ _ s hw'
theorem zry {d : Nat} {f : FuncId} {args : Array Value} {α : Type} {val : α → Value} {H' : α → World → Prop} (hok : zfj N l op d = true) (hr : ∀ w, (execOp (ev l) ⟨some d, op, ty, pos, after, g⟩).run P w = .ok (.enter f args) w)
  (hc : ∀ w, H w → Calls P f args w fun e w' => ∃ x, e = .returned (val x) ∧ H' x w') :
  HO P ⟨some d, op, ty, pos, after, g⟩ Q N l H (fun x => (d, val x) :: l) H' := by
 obtain ⟨hs, hN, hk⟩ := zeq hok
 intro a w s hw K hK
 refine ⟨zk1 hok, ?_⟩
 unfold Oper.wp
 rw [s.exec _ hs hk, hr, Oper.upon_enter]
 refine (hc w hw).mono fun e w' ⟨x, he, hx⟩ => ?_
 subst he
 exact hK x _ _ (s.put hN (val x)) hx
end plainop
section moves
variable {ty : TypeId} {pos : String} {after : Array Edge} {x : Operand} {v : Value}
theorem zhd (hx : evO l x = some v) : OV P (.move x) ty l H v := fun _ _ _ w _ => by simp only [execOp, zax hx]; rfl
theorem zez (hx : evO l x = some v) : OV P (.assign x) ty l H v := fun _ _ _ w _ => by simp only [execOp, zax hx]; rfl
end moves
theorem za0 {α : Type} {l' : α → zat} {H' : α → World → Prop} (hg : o.guard = none) (h : HO P o Q N l H l' H') (k : ∀ x, HL P ops Q N rest (l' x) (H' x)) : HL P ops Q N (o :: rest) l H :=
 fun a w s hw => wpListIn_plain hg fun K hK => (fun x => qim x.1 x.2 N.r) (h a w s hw K fun x a' w' s' hw' => hK a' w' (k x a' w' s' hw'))
/- guards -/
def zmw (ops : Array Oper) (l : zat) (o : Oper) (b : Bool) : Bool :=
 match o.guard with
 | some (j, want) => (match (ops[j]?).bind (·.dst) with | some t => (match get l t with | some (.bool c) => (c == want) == b | _ => false) | none => false)
 | none => false
theorem zir {a : Act} {b : Bool} (s : St N l a) (h : zmw ops l o b = true) : Region.wanted o (yielded ops a.tmps) = b := by
 unfold zmw at h
 unfold Region.wanted
 split at h
 ·rename_i j want hg
  simp only [hg]
  split at h
  ·rename_i t ht
   split at h
   ·rename_i c hc
    have := s.slot t _ hc
    simp only [yielded, ht, Option.bind_some, this]
    simp only [beq_iff_eq] at h
    rw [← h]
    cases c <;> cases want <;> rfl
   ·cases h
  ·cases h
 ·cases h
theorem qmz {d : Nat} {op : Op} {ty : TypeId} {pos : String} {after : Array Edge} {g : Nat × Bool} (hN : Nat.ble (d + 1) N.n = true) (hg : zmw ops l ⟨some d, op, ty, pos, after, some g⟩ false = true) (k : HL P ops Q N rest ((d, undef) :: l) H) : HL P ops Q N (⟨some d, op, ty, pos, after, some g⟩ :: rest) l H := by
 intro a w s hw
 unfold wpListIn
 rw [if_neg (by rw [zir s hg]; simp)]
 exact ⟨fun _ _ => trivial, k _ _ (s.put (Nat.le_of_ble_eq_true hN) undef) hw⟩
def qna (ops : Array Oper) (l : zat) (g : Nat × Bool) : Bool := match (ops[g.1]?).bind (·.dst) with | some t => (match get l t with | some (.tuple _) => true | _ => false) | none => false
theorem zwe {a : Act} {dst : Option Tmp} {op : Op} {ty : TypeId} {pos : String} {after : Array Edge} {g : Nat × Bool} (s : St N l a) (h : qna ops l g = true) : Region.wanted ⟨dst, op, ty, pos, after, some g⟩ (yielded ops a.tmps) = false := by
 unfold qna at h
 split at h
 ·rename_i t ht
  split at h
  ·rename_i vs hv
   have := s.slot t _ hv
   simp only [Region.wanted, yielded, ht, Option.bind_some, this]
   rfl
  ·cases h
 ·cases h
theorem qly {d : Nat} {op : Op} {ty : TypeId} {pos : String} {after : Array Edge} {g : Nat × Bool} (hN : Nat.ble (d + 1) N.n = true) (hg : qna ops l g = true) (k : HL P ops Q N rest ((d, undef) :: l) H) : HL P ops Q N (⟨some d, op, ty, pos, after, some g⟩ :: rest) l H := by
 intro a w s hw
 unfold wpListIn
 rw [if_neg (by rw [zwe s hg]; simp)]
 exact ⟨fun _ _ => trivial, k _ _ (s.put (Nat.le_of_ble_eq_true hN) undef) hw⟩
theorem qme (d : Nat) (b : Bool) (h : get l d = some (.bool b)) (ht : b = true → HL P ops Q N rest ((d, .bool true) :: l) H) (hf : b = false → HL P ops Q N rest ((d, .bool false) :: l) H) : HL P ops Q N rest l H := by
 intro a w s hw
 have hs : ∀ c, b = c → St N ((d, .bool c) :: l) a := fun c hc => ⟨s.size, s.defers, fun t v hv => by
  rw [zbi] at hv
  by_cases e : d = t
  ·subst e; rw [if_pos rfl] at hv; rw [← Option.some.inj hv, ← hc]; exact s.slot _ _ h
  ·rw [if_neg e] at hv; exact s.slot t v hv⟩
 cases hb : b
 ·exact hf hb a w (hs _ hb) hw
 ·exact ht hb a w (hs _ hb) hw
theorem zdc (d : Nat) (v v' : Value) (h : get l d = some v) (e : v = v') (k : HL P ops Q N rest ((d, v') :: l) H) : HL P ops Q N rest l H := by
 intro a w s hw
 refine k a w ⟨s.size, s.defers, fun t u hu => ?_⟩ hw
 rw [zbi] at hu
 by_cases e' : d = t
 ·subst e'; rw [if_pos rfl] at hu; rw [← Option.some.inj hu, ← e]; exact s.slot _ _ h
 ·rw [if_neg e'] at hu; exact s.slot t u hu
/- the end -/
def zfd (P : Program) (l : zat) (H : World → Prop) (r : ResultVar) (v : Value) : Prop :=
 match r with
 | .tmp t => get l t = some v
 | .cell t ty => ∃ a, get l t = some (.pointer (some a)) ∧ ∀ w, H w → (loadVar ty a).run P w = .ok v w
theorem zd9 {r : ResultVar} {v : Value} (h : zfd P l H r v) {a : Act} {w : World} (s : St N l a) (hw : H w) :
  (match r with | .tmp t => a.tmps[t]? = some v | .cell p ty => ∃ x, a.tmps[p]? = some (.pointer (some x)) ∧ (loadVar ty x).run P w = .ok v w : Prop) := by
 cases r with
 | tmp t => exact s.slot _ _ h
 | cell t ty => obtain ⟨p, h1, h2⟩ := h; exact ⟨p, s.slot _ _ h1, h2 w hw⟩
theorem qj7 {n : Nat} {fn : Func} {R : Ending → World → Prop} {r : ResultVar} {v : Value} (hf : fn.results = #[r]) (h1 : zfd P l H r v) (h : ∀ w, H w → R (.returned v) w) : HX (bodyPost P fn R) .ret ⟨n, [], none⟩ l H := fun a w s hw => by
 have e1 := zd9 h1 s hw
 refine bodyPost_ret (v := v) ?_ s.defers (h w hw)
 cases r with
 | tmp t => simp only [] at e1; simp [results, hf, e1]
 | cell t ty => obtain ⟨x, ex, e1⟩ := e1; simp [results, hf, ex, asAddr, e1]
theorem qjr {n : Nat} {fn : Func} {R : Ending → World → Prop} {r q : ResultVar} {v u : Value} (hf : fn.results = #[r, q]) (h1 : zfd P l H r v) (h2 : zfd P l H q u) (h : ∀ w, H w → R (.returned (.tuple #[v, u])) w) : HX (bodyPost P fn R) .ret ⟨n, [], none⟩ l H := fun a w s hw => by
 have e1 := zd9 h1 s hw
 have e2 := zd9 h2 s hw
 refine bodyPost_ret (v := .tuple #[v, u]) ?_ s.defers (h w hw)
 cases r with
 | tmp t =>
  simp only [] at e1
  cases q with
  | tmp t' => simp only [] at e2; simp [results, hf, e1, e2]
  | cell t' ty' => obtain ⟨y, ey, e2⟩ := e2; simp [results, hf, e1, ey, asAddr, e2]
 | cell t ty =>
  obtain ⟨x, ex, e1⟩ := e1
  cases q with
  | tmp t' => simp only [] at e2; simp [results, hf, ex, asAddr, e1, e2]
  | cell t' ty' => obtain ⟨y, ey, e2⟩ := e2; simp [results, hf, ex, asAddr, e1, ey, e2]
theorem qj1 {n : Nat} {fn : Func} {R : Ending → World → Prop} (hf : fn.results = #[]) (h : ∀ w, H w → R (.returned (.tuple #[])) w) : HX (bodyPost P fn R) .ret ⟨n, [], none⟩ l H := fun _ w s hw =>
 bodyPost_ret (results_none hf _ _ _) s.defers (h w hw)
theorem zze {n : Nat} {fn : Func} {R : Ending → World → Prop} (hf : fn.results = #[]) (h : ∀ w, H w → R (.returned (.tuple #[])) w) : HX (bodyPost P fn R) .normal ⟨n, [], none⟩ l H := fun _ w s hw =>
 bodyPost_end (results_none hf _ _ _) s.defers (h w hw)
/- the beginning: 'vs' lie in slots 0, 1, .. -/
def zaa : Nat → List Value → zat
 | _, [] => []
 | k, v :: r => (k, v) :: zaa (k + 1) r
theorem znc (vs : List Value) : ∀ k t v, get (zaa k vs) t = some v → k ≤ t ∧ vs[t - k]? = some v := by
 induction vs with
 | nil => intro k t v h; simp [zaa, get] at h
 | cons x r ih =>
  intro k t v h
  rw [zaa, zbi] at h
  by_cases e : k = t
  ·subst e; rw [if_pos rfl] at h; simp [← h]
  ·rw [if_neg e] at h
   obtain ⟨h1, h2⟩ := ih _ _ _ h
   refine ⟨by omega, ?_⟩
   rw [show t - k = (t - (k + 1)) + 1 by omega]
   simpa using h2
theorem zn4 {f : FuncId} {fn : Func} {c : Code} {vs : List Value} {w₀ : World} {R : Ending → World → Prop} (hf : P.funcs[f]? = some fn) (hb : fn.body = some c) (hn : Nat.ble vs.length fn.ntmps = true) (H : World → Prop) (hH : H w₀)
  (h : HT P c (bodyPost P fn R) ⟨fn.ntmps, [], none⟩ (zaa 0 vs) H) : Calls P f vs.toArray w₀ R := by
 refine calls_of_wp hf hb (WP.wp (h _ _ ⟨by simp at hn ⊢; omega, rfl, fun t v hv => ?_⟩ hH))
 obtain ⟨-, h2⟩ := znc vs 0 t v hv
 simp only [Nat.sub_zero] at h2
 have hlt : t < vs.length := (List.getElem?_eq_some_iff.1 h2).1
 rw [Array.getElem?_append_left (by simpa using hlt)]
 simpa using h2
/-! ### Memory -/
structure Fr (F : Nat → Prop) (w w' : World) : Prop where
 os : w'.os = w.os
 tape : w'.tape = w.tape
 output : w'.output = w.output
 size : w.heap.size ≤ w'.heap.size
 block : ∀ k, k < w.heap.size → ¬ F k → w'.heap[k]? = w.heap[k]?
abbrev none' : Nat → Prop := fun _ => False
theorem Fr.refl (F : Nat → Prop) (w : World) : Fr F w w := ⟨rfl, rfl, rfl, Nat.le_refl _, fun _ _ _ => rfl⟩
theorem Fr.below {w w' : World} (h : Fr none' w w') : Below w.heap.size w w' := ⟨h.os, h.tape, h.output, h.size, fun k hk => h.block k hk (fun h => h)⟩
structure Item where
 foot : Nat → Prop
 prop : World → Prop
def Item.Stable (ro : Nat → Prop) (it : Item) : Prop := ∀ w w' : World, (∀ k, ro k ∨ it.foot k → w'.heap[k]? = w.heap[k]?) → it.prop w → it.prop w'
abbrev qpa (w0 : World) (F : Nat → Prop) : Nat → Prop := fun k => k < w0.heap.size ∧ ¬ F k
def Item.In (w0 : World) (F : Nat → Prop) (it : Item) (w : World) : Prop :=
 it.prop w ∧ it.Stable (qpa w0 F) ∧ ∀ k, it.foot k → k < w.heap.size ∧ (k < w0.heap.size → F k)
def Item.Apart (x y : Item) : Prop := ∀ k, x.foot k → y.foot k → False
structure Hp (w0 : World) (F : Nat → Prop) (m : List Item) (w : World) : Prop where
 fr : Fr F w0 w
 item : ∀ it ∈ m, it.In w0 F w
 apart : m.Pairwise Item.Apart
def pt (b : Nat) (o : Obj) : Item := ⟨fun k => k = b, fun w => w.heap[b]? = some o⟩
theorem zac (ro : Nat → Prop) (b : Nat) (o : Obj) : (pt b o).Stable ro := fun _ _ h hp => (h b (.inr rfl)).trans hp
structure Its (Fc : Nat → Prop) (w : World) (L : List Item) (w' : World) : Prop where
 fr : Fr Fc w w'
 item : ∀ it ∈ L, it.prop w' ∧ it.Stable none' ∧ ∀ k, it.foot k → k < w'.heap.size ∧ (k < w.heap.size → Fc k)
 apart : L.Pairwise Item.Apart
section mem
variable {w0 : World} {F : Nat → Prop} {m m' : List Item} {w w' : World}
theorem Hp.start (w : World) (F : Nat → Prop) : Hp w F [] w := ⟨.refl _ _, fun _ h => (nomatch h), .nil⟩
theorem Hp.get (h : Hp w0 F m w) {b : Nat} {o : Obj} (hm : pt b o ∈ m) : w.heap[b]? = some o := (h.item _ hm).1
theorem Hp.perm (h : Hp w0 F m w) (hp : m.Perm m') : Hp w0 F m' w :=
 ⟨h.fr, fun it hm => h.item it (hp.mem_iff.2 hm), (List.Perm.pairwise_iff (fun {_ _} h k a b => h k b a) hp).1 h.apart⟩
theorem Hp.sub (h : Hp w0 F m w) (hs : m'.Sublist m) : Hp w0 F m' w := ⟨h.fr, fun it hm => h.item it (hs.subset hm), h.apart.sublist hs⟩
theorem Item.In.moved {it : Item} (h : it.In w0 F w) (hf : ∀ k, it.foot k → w'.heap[k]? = w.heap[k]?) (h0 : ∀ k, qpa w0 F k → w'.heap[k]? = w.heap[k]?) (hs : w.heap.size ≤ w'.heap.size) : it.In w0 F w' :=
 ⟨h.2.1 w w' (fun k hk => hk.elim (h0 k) (hf k)) h.1, h.2.1, fun k hk => ⟨Nat.lt_of_lt_of_le (h.2.2 k hk).1 hs, (h.2.2 k hk).2⟩⟩
theorem Hp.drew (h : Hp w0 F m w) : Hp w0 F m w.drew :=
 ⟨⟨h.fr.os, h.fr.tape, h.fr.output, h.fr.size, h.fr.block⟩, fun it hm => (h.item it hm).moved (fun _ _ => rfl) (fun _ _ => rfl) (Nat.le_refl _), h.apart⟩
theorem Hp.call {L m2 : List Item} {Fc : Nat → Prop} (h : Hp w0 F (m ++ m2) w) (c : Its Fc w L w') (hF : ∀ k, k < w.heap.size → Fc k → ∃ it ∈ m, it.foot k) : Hp w0 F (L ++ m2) w' := by
 have hroF : ∀ k, qpa w0 F k → k < w.heap.size ∧ ¬ Fc k := fun k hk => by
  have hlt := Nat.lt_of_lt_of_le hk.1 h.fr.size
  refine ⟨hlt, fun hc => ?_⟩
  obtain ⟨it, hm, hf⟩ := hF k hlt hc
  exact hk.2 (((h.item it (List.mem_append_left _ hm)).2.2 k hf).2 hk.1)
 refine ⟨⟨c.fr.os.trans h.fr.os, c.fr.tape.trans h.fr.tape, c.fr.output.trans h.fr.output, Nat.le_trans h.fr.size c.fr.size, fun k hk hn => ?_⟩, fun it hm => ?_, ?_⟩
 ·obtain ⟨h1, h2⟩ := hroF k ⟨hk, hn⟩
  rw [c.fr.block k h1 h2, h.fr.block k hk hn]
 ·rcases List.mem_append.1 hm with hm | hm
  ·obtain ⟨h1, h2, h3⟩ := c.item it hm
   refine ⟨h1, fun a b hab hp => h2 a b (fun k hk => hab k (hk.elim (fun f => f.elim) .inr)) hp, fun k hk => ⟨(h3 k hk).1, fun hk0 => ?_⟩⟩
   have hlt := Nat.lt_of_lt_of_le hk0 h.fr.size
   obtain ⟨it', hm', hf'⟩ := hF k hlt ((h3 k hk).2 hlt)
   exact ((h.item it' (List.mem_append_left _ hm')).2.2 k hf').2 hk0
  ·have hin := h.item it (List.mem_append_right _ hm)
   refine hin.moved (fun k hk => ?_) (fun k hk => ?_) c.fr.size
   ·refine c.fr.block k (hin.2.2 k hk).1 (fun hc => ?_)
    obtain ⟨it', hm', hf'⟩ := hF k (hin.2.2 k hk).1 hc
    exact (List.pairwise_append.1 h.apart).2.2 it' hm' it hm k hf' hk
   ·obtain ⟨h1, h2⟩ := hroF k hk
    exact c.fr.block k h1 h2
 ·refine List.pairwise_append.2 ⟨c.apart, (List.pairwise_append.1 h.apart).2.1, fun x hx y hy k hkx hky => ?_⟩
  have hin := h.item y (List.mem_append_right _ hy)
  have hlt := (hin.2.2 k hky).1
  obtain ⟨it', hm', hf'⟩ := hF k hlt (((c.item x hx).2.2 k hkx).2 hlt)
  exact (List.pairwise_append.1 h.apart).2.2 it' hm' y hy k hf' hky
theorem Hp.call0 {L : List Item} (h : Hp w0 F m w) (c : Its none' w L w') : Hp w0 F (L ++ m) w' := Hp.call (m := []) h c (fun _ _ h => h.elim)
theorem Hp.keep (h : Hp w0 F m w) (c : Fr none' w w') : Hp w0 F m w' := Hp.call0 (L := []) h ⟨c, fun _ h => (nomatch h), .nil⟩
theorem Hp.its {L : List Item} (h : Hp w0 F m w) (hs : L.Sublist m) (hst : ∀ it ∈ L, it.Stable none') : Its F w0 L w :=
 ⟨h.fr, fun it hm => ⟨(h.item it (hs.subset hm)).1, hst it hm, (h.item it (hs.subset hm)).2.2⟩, h.apart.sublist hs⟩
theorem Hp.alloc (h : Hp w0 F m w) (o : Obj) : Hp w0 F (pt w.heap.size o :: m) (w.alloc o) := by
 refine Hp.call0 (L := [pt w.heap.size o]) h ⟨⟨rfl, rfl, rfl, by simp, fun k hk _ => Below.heap_alloc w o k hk⟩, fun it hm => ?_, .cons (fun _ h => by cases h) .nil⟩
 obtain rfl : it = pt w.heap.size o := by simpa using hm
 exact ⟨heap_alloc_new w o, zac _ _ _, fun k hk => by cases hk; simp⟩
theorem Hp.turn {b : Nat} {o : Obj} (h : Hp w0 F (pt b o :: m) w) (o' : Obj) (hb : w'.heap[b]? = some o') (hr : ∀ k, k ≠ b → w'.heap[k]? = w.heap[k]?) (hs : w'.heap.size = w.heap.size) (h1 : w'.os = w.os) (h2 : w'.tape = w.tape) (h3 : w'.output = w.output) : Hp w0 F (pt b o' :: m) w' := by
 refine Hp.call (L := [pt b o']) (m := [pt b o]) (Fc := fun k => k = b) h ⟨⟨h1, h2, h3, Nat.le_of_eq hs.symm, fun k _ hn => hr k hn⟩, fun it hm => ?_, .cons (fun _ h => by cases h) .nil⟩ (fun k _ hk => ⟨pt b o, by simp, hk⟩)
 obtain rfl : it = pt b o' := by simpa using hm
 refine ⟨hb, zac _ _ _, fun k hk => ?_⟩
 cases hk
 refine ⟨?_, fun _ => rfl⟩
 rw [hs]
 exact ((h.item (pt b o) (by simp)).2.2 b rfl).1
theorem Hp.setCell {b i : Nat} {cs : Array Value} {E : TypeId} (h : Hp w0 F (pt b (.cells cs E (0, 0)) :: m) w) (v : Value) : Hp w0 F (pt b (.cells (cs.setIfInBounds i v) E (0, 0)) :: m) (w.setCell ⟨b, i, none⟩ v) :=
 h.turn _ (heap_setCell_same w b i cs E v (h.get (by simp))) (fun k hk => heap_setCell_other w _ k v hk) (by simp [World.setCell]) rfl rfl rfl
theorem Hp.old (h : Hp w0 F m w) {a : Addr} (hF : ¬ F a.block) {v : Value} (hv : w0.cell? a = some v) : w.cell? a = some v := by
 have hlt := World.block_lt_of_cell? w0 a hv
 rw [← hv]
 exact World.cell?_of_block (w := w0) (h.fr.block a.block hlt hF)
end mem
section memops
variable {w0 : World} {F : Nat → Prop} {m m' : List Item}
def zot (P : Program) (T : TypeId) : Bool := match P.underlying T with | some (.struct _) | some (.array _ _) | none => false | _ => true
theorem zui {T : TypeId} (hT : zot P T = true) {a : Addr} {v : Value} {w : World} (hv : w.cell? a = some v) : (Instr.loadAt T (.pointer (some a))).run P w = .ok v w := by
 have hagg : (isAgg T).run P w = .ok false w := by
  unfold zot at hT
  cases hu : P.underlying T with
  | none => simp [hu] at hT
  | some d =>
   unfold isAgg
   rw [Sem.run_bind, run_underlying hu w]
   cases d <;> simp_all
 simp [Instr.loadAt, Instr.sureAddr, loadVar, Sem.run_bind, hagg, load, Sem.run, hv]
theorem zdx {w : World} {b i : Nat} {cs : Array Value} {E : TypeId} {fz : Nat × Nat} (h : w.heap[b]? = some (.cells cs E fz)) {v : Value} (hv : cs[i]? = some v) : w.cell? ⟨b, i, none⟩ = some v := by
 rw [cell_of_row w b i cs E fz h, hv]
section plainops
variable {op : Op} {ty : TypeId} {pos : String} {after : Array Edge} {g : Option (Nat × Bool)}
theorem zaz {T : TypeId} {x : Operand} {a : Addr} {v : Value} (hx : evO l x = some (.pointer (some a))) (hT : zot P T = true) (hv : ∀ w, H w → w.cell? a = some v) : OV P (.load T x) ty l H v :=
 fun _ _ _ w hw => by simp only [execOp, zax hx, Sem.run_bind, zui hT (hv w hw)]; rfl
theorem zc6 {T : TypeId} {x : Operand} {b i : Nat} {v : Value} {cs : Array Value} {E : TypeId} {fz : Nat × Nat} (hx : evO l x = some (.pointer (some ⟨b, i, none⟩))) (hT : zot P T = true)
  (hm : pt b (.cells cs E fz) ∈ m) (hv : cs[i]? = some v) : OV P (.load T x) ty l (Hp w0 F m) v :=
 zaz hx hT (fun _ hw => zdx (hw.get hm) hv)
theorem zev {T : TypeId} {x : Operand} {b : Nat} {v : Value} {E : TypeId} {fz : Nat × Nat} (hx : evO l x = some (.pointer (some ⟨b, 0, none⟩))) (hT : zot P T = true)
  (hm : pt b (.cells #[v] E fz) ∈ m) : OV P (.load T x) ty l (Hp w0 F m) v := zc6 hx hT hm rfl
def zvk (P : Program) (T : TypeId) : Option Nat := match P.underlying T with | some (.struct _) | some (.array _ _) => (P.info? T).map (·.size) | _ => none
theorem zox {T : TypeId} {n : Nat} (hT : zvk P T = some n) {b i : Nat} {cs : Array Value} {E : TypeId} {fz : Nat × Nat} {w : World} (h : w.heap[b]? = some (.cells cs E fz)) (hi : i + n ≤ cs.size) :
  (loadVar T ⟨b, i, none⟩).run P w = .ok (.agg (cs.extract i (i + n))) w := by
 unfold zvk at hT
 have hr := World.rangeAt_of_block h i n
 have hlen : (cs.extract i (i + n)).toList.length = n := by simp; omega
 split at hT
 ·rename_i hu; have := run_loadVar_mid (P := P) w b i T _ _ hr hu rfl (by rw [hT, hlen]); rwa [Array.toArray_toList] at this
 ·rename_i hu; have := run_loadVar_mid (P := P) w b i T _ _ hr hu rfl (by rw [hT, hlen]); rwa [Array.toArray_toList] at this
 ·cases hT
theorem qf2 {T : TypeId} {x : Operand} {b i n : Nat} {cs : Array Value} {E : TypeId} {fz : Nat × Nat} (hx : evO l x = some (.pointer (some ⟨b, i, none⟩))) (hT : zvk P T = some n)
  (hm : pt b (.cells cs E fz) ∈ m) (hi : i + n ≤ cs.size) : OV P (.load T x) ty l (Hp w0 F m) (.agg (cs.extract i (i + n))) :=
 fun _ _ _ w hw => by simp only [execOp, zax hx, Instr.loadAt, Instr.sureAddr, Sem.run_bind, Sem.run_pure, Result.andThen_ok, zox hT (hw.get hm) hi]
theorem zd3 {T : TypeId} {x : Operand} {b : Nat} {cs : Array Value} {E : TypeId} {fz : Nat × Nat} (hx : evO l x = some (.pointer (some ⟨b, 0, none⟩))) (hT : zvk P T = some cs.size)
  (hm : pt b (.cells cs E fz) ∈ m) : OV P (.load T x) ty l (Hp w0 F m) (.agg cs) := by
 have := qf2 (ty := ty) (w0 := w0) (F := F) hx hT hm (Nat.le_of_eq (Nat.zero_add _))
 simpa only [Nat.zero_add, Array.extract_size] using this
theorem zas {T : TypeId} {b : Nat} {cs : Array Value} {E : TypeId} {fz : Nat × Nat} (hT : zvk P T = some cs.size) (hm : pt b (.cells cs E fz) ∈ m) : ∀ w, Hp w0 F m w → (loadVar T ⟨b, 0, none⟩).run P w = .ok (.agg cs) w := fun w hw => by
 have := zox hT (hw.get hm) (i := 0) (Nat.le_of_eq (Nat.zero_add _))
 simpa only [Nat.zero_add, Array.extract_size] using this
theorem zo5 {d : Nat} {T : TypeId} {z : Value} (hok : zfj N l (.alloc T) d = true) (hz : (P.info? T).bind (·.zero) = some z) :
  HO P ⟨some d, .alloc T, ty, pos, after, g⟩ Q N l (Hp w0 F m) (α := { b : Nat // w0.heap.size ≤ b }) (fun b => (d, .pointer (some ⟨b.1, 0, none⟩)) :: l) (fun b => Hp w0 F (pt b.1 (.cells z.cells T (0, 0)) :: m)) :=
 zhr (val := fun b : { b : Nat // w0.heap.size ≤ b } => .pointer (some ⟨b.1, 0, none⟩)) hok (fun w hw => by
  refine ⟨⟨w.heap.size, hw.fr.size⟩, w.alloc (.cells z.cells T), ?_, hw.alloc _⟩
  cases hq : P.info? T with
  | none => simp [hq] at hz
  | some i =>
   have hz' : i.zero = some z := by simpa [hq] using hz
   simp [execOp, Instr.alloc, zeroValue, typeInfo, hq, hz', newVar, newRow])
theorem zan {d : Nat} {T : TypeId} {zs : Array Value} (hok : zfj N l (.alloc T) d = true) (hz : (P.info? T).bind (·.zero) = some (.agg zs))
  (k : ∀ b, w0.heap.size ≤ b → HL P ops Q N rest ((d, .pointer (some ⟨b, 0, none⟩)) :: l) (Hp w0 F (pt b (.cells zs T (0, 0)) :: m))) : HL P ops Q N (⟨some d, .alloc T, ty, pos, after, none⟩ :: rest) l (Hp w0 F m) :=
 za0 rfl (zo5 hok hz) fun b => k b.1 b.2
theorem zeb {d : Nat} {T : TypeId} {z : Value} (hok : zfj N l (.alloc T) d = true) (hz : (P.info? T).bind (·.zero) = some z) (h1 : z.cells = #[z])
  (k : ∀ b, w0.heap.size ≤ b → HL P ops Q N rest ((d, .pointer (some ⟨b, 0, none⟩)) :: l) (Hp w0 F (pt b (.cells #[z] T (0, 0)) :: m))) : HL P ops Q N (⟨some d, .alloc T, ty, pos, after, none⟩ :: rest) l (Hp w0 F m) :=
 za0 rfl (zo5 hok hz) fun b => by rw [h1]; exact k b.1 b.2
theorem qba {d : Nat} {T : TypeId} {x : Operand} {v : Value} (hok : zfj N l (.box T x) d = true) (hx : evO l x = some v) :
  HO P ⟨some d, .box T x, ty, pos, after, g⟩ Q N l (Hp w0 F m) (α := { b : Nat // w0.heap.size ≤ b }) (fun b => (d, .pointer (some ⟨b.1, 0, none⟩)) :: l) (fun b => Hp w0 F (pt b.1 (.cells v.cells T (0, 0)) :: m)) :=
 zhr (val := fun b : { b : Nat // w0.heap.size ≤ b } => .pointer (some ⟨b.1, 0, none⟩)) hok (fun w hw => by
  refine ⟨⟨w.heap.size, hw.fr.size⟩, w.alloc (.cells v.cells T), ?_, hw.alloc _⟩
  simp [execOp, Instr.box, zax hx, newVar, newRow])
theorem zb0 {d : Nat} {T : TypeId} {x : Operand} {c : Array Value} (hok : zfj N l (.box T x) d = true) (hx : evO l x = some (.agg c))
  (k : ∀ b, w0.heap.size ≤ b → HL P ops Q N rest ((d, .pointer (some ⟨b, 0, none⟩)) :: l) (Hp w0 F (pt b (.cells c T (0, 0)) :: m))) : HL P ops Q N (⟨some d, .box T x, ty, pos, after, none⟩ :: rest) l (Hp w0 F m) :=
 za0 rfl (qba hok hx) fun b => k b.1 b.2
theorem zd2 {d : Nat} {T : TypeId} {x : Operand} {v : Value} (hok : zfj N l (.box T x) d = true) (hx : evO l x = some v) (h1 : v.cells = #[v])
  (k : ∀ b, w0.heap.size ≤ b → HL P ops Q N rest ((d, .pointer (some ⟨b, 0, none⟩)) :: l) (Hp w0 F (pt b (.cells #[v] T (0, 0)) :: m))) : HL P ops Q N (⟨some d, .box T x, ty, pos, after, none⟩ :: rest) l (Hp w0 F m) :=
 za0 rfl (qba hok hx) fun b => by rw [h1]; exact k b.1 b.2
theorem zaj {T : TypeId} {x y : Operand} {b i : Nat} {v : Value} {cs : Array Value} {E : TypeId} (hok : (zg7 (.store T x y) && zem l (.store T x y)) = true)
  (hx : evO l x = some (.pointer (some ⟨b, i, none⟩))) (hy : evO l y = some v) (hT : (P.info? T).map (·.size) = some 1) (h1 : v.cells = #[v]) (h2 : v.oneCell' = true) (hi : i < cs.size) :
  HO P ⟨none, .store T x y, ty, pos, after, g⟩ Q N l (Hp w0 F (pt b (.cells cs E (0, 0)) :: m)) (α := Unit) (fun _ => l) (fun _ => Hp w0 F (pt b (.cells (cs.setIfInBounds i v) E (0, 0)) :: m)) :=
 zug hok (fun w hw => by
  refine ⟨(), w.setCell ⟨b, i, none⟩ v, ?_, hw.setCell v⟩
  have hb := hw.get (b := b) (o := .cells cs E (0, 0)) (by simp)
  have hc : w.cell? ⟨b, i, none⟩ = some cs[i] := by rw [cell_of_row w b i cs E _ hb]; simp [hi]
  have hf : w.frozen? ⟨b, i, none⟩ = false := frozen_of_row w b i cs E hb
  cases hq : P.info? T with
  | none => simp [hq] at hT
  | some q =>
   have hs : q.size = 1 := by simpa [hq] using hT
   cases v <;> simp [execOp, zax hx, zax hy, Instr.storeAt, Instr.sureAddr, storeVar, sizeOf, typeInfo, hq, hs, h1, storeCells, store, Addr.add, Sem.run, hc, hf] at h2 ⊢ <;> cases h2)
theorem zwb {w : World} {b : Nat} {cs cs' : Array Value} {E : TypeId} (hb : w.heap[b]? = some (.cells cs E (0, 0))) (hs : cs'.size = cs.size) : (w.setCells b 0 cs'.toList).heap[b]? = some (.cells cs' E (0, 0)) := by
 have key : ∀ (vs : List Value) (o : Nat) (w : World) (cs : Array Value), w.heap[b]? = some (.cells cs E (0, 0)) → o + vs.length ≤ cs.size → ∃ ds : Array Value, (w.setCells b o vs).heap[b]? = some (.cells ds E (0, 0)) ∧ ds.size = cs.size ∧ (∀ k, k < o → ds[k]? = cs[k]?) ∧ ∀ k, k < vs.length → ds[o + k]? = vs[k]? := by
  intro vs
  induction vs with
  | nil => intro o w cs h _; exact ⟨cs, h, rfl, fun _ _ => rfl, fun k hk => by simp at hk⟩
  | cons v r ih =>
   intro o w cs h hl
   simp only [List.length_cons] at hl
   have h1 := heap_setCell_same w b o cs E v h
   obtain ⟨ds, e1, e2, e3, e4⟩ := ih (o + 1) (w.setCell ⟨b, o, none⟩ v) _ h1 (by simp; omega)
   refine ⟨ds, e1, by simpa using e2, fun k hk => ?_, fun k hk => ?_⟩
   ·rw [e3 k (by omega)]; rw [Array.getElem?_setIfInBounds_ne (by omega)]
   ·cases k with
    | zero =>
     rw [Nat.add_zero, e3 o (by omega)]
     have : o < cs.size := by omega
     simp [this]
    | succ k =>
     have := e4 k (by simpa using hk)
     rw [show o + (k + 1) = o + 1 + k by omega, this]
     simp
 obtain ⟨ds, e1, e2, -, e4⟩ := key cs'.toList 0 w cs hb (by simp [hs])
 rw [e1]
 have : ds = cs' := by
  refine Array.ext_getElem? fun k => ?_
  by_cases hk : k < cs'.size
  ·have := e4 k (by simpa using hk)
   simpa using this
  ·rw [Array.getElem?_eq_none (by omega), Array.getElem?_eq_none (by omega)]
 rw [this]
theorem zjr {b : Nat} : ∀ (vs : List Value) (o : Nat) (w : World) (k : Nat), k ≠ b → (w.setCells b o vs).heap[k]? = w.heap[k]?
 | [], _, _, _, _ => rfl
 | v :: r, o, w, k, h => by rw [World.setCells, zjr r (o + 1) _ k h, heap_setCell_other w _ k v h]
theorem zkp {b : Nat} : ∀ (vs : List Value) (o : Nat) (w : World), (w.setCells b o vs).heap.size = w.heap.size ∧ (w.setCells b o vs).os = w.os ∧ (w.setCells b o vs).tape = w.tape ∧ (w.setCells b o vs).output = w.output
 | [], _, _ => ⟨rfl, rfl, rfl, rfl⟩
 | v :: r, o, w => by
  obtain ⟨h1, h2, h3, h4⟩ := zkp r (o + 1) (w.setCell ⟨b, o, none⟩ v)
  rw [World.setCells]
  exact ⟨h1.trans (by simp [World.setCell]), h2, h3, h4⟩
def zbz : List Value → Bool
 | [] => true
 | v :: r => v.oneCell' && zbz r
theorem za4 : ∀ {l : List Value}, zbz l = true ↔ ∀ v ∈ l, v.oneCell' = true
 | [] => by simp [zbz]
 | v :: r => by simp [zbz, za4 (l := r)]
theorem zwv {cs : Array Value} (h : zbz cs.toList = true) : cs.all (·.oneCell') = true :=
 Array.all_eq_true_iff_forall_mem.2 fun v hv => za4.1 h v (by simpa using hv)
theorem zai {T : TypeId} {x y : Operand} {b : Nat} {cs cs' : Array Value} {E : TypeId} (hok : (zg7 (.store T x y) && zem l (.store T x y)) = true)
  (hx : evO l x = some (.pointer (some ⟨b, 0, none⟩))) (hy : evO l y = some (.agg cs')) (hT : (P.info? T).map (·.size) = some cs'.size) (h1' : zbz cs'.toList = true) (hs : cs'.size = cs.size) :
  HO P ⟨none, .store T x y, ty, pos, after, g⟩ Q N l (Hp w0 F (pt b (.cells cs E (0, 0)) :: m)) (α := Unit) (fun _ => l) (fun _ => Hp w0 F (pt b (.cells cs' E (0, 0)) :: m)) :=
 zug hok (fun w hw => by
  have h1 := zwv h1'
  have hb := hw.get (b := b) (o := .cells cs E (0, 0)) (by simp)
  obtain ⟨r1, r2, r3, r4⟩ := zkp (b := b) cs'.toList 0 w
  refine ⟨(), w.setCells b 0 cs'.toList, ?_, hw.turn _ (zwb hb hs) (fun k hk => zjr _ _ _ k hk) r1 r2 r3 r4⟩
  have ht : w.there b 0 cs'.size := fun j hj => by
   refine ⟨?_, frozen_of_row w b _ cs E hb⟩
   rw [Nat.zero_add, cell_of_row w b j cs E _ hb]
   simp; omega
  simp only [execOp, zax hx, zax hy, Instr.storeAt, Instr.sureAddr, Sem.run_bind, Sem.run_pure, Result.andThen_ok, run_storeVar_mid w b 0 T cs' ht hT h1])
def zq4 (w : World) (v : Value) : Ending → World → Prop := fun e w' => e = .returned v ∧ Fr none' w w'
def Pu (P : Program) (f : FuncId) (args : Array Value) (w : World) (v : Value) : Prop := Calls P f args w (zq4 w v)
theorem Pu.calls {f : FuncId} {args : Array Value} {w : World} {v : Value} (h : Pu P f args w v) : Calls P f args w fun e w' => e = .returned v ∧ Fr none' w w' := h
theorem zbl {f : FuncId} {fn : Func} {c : Code} (vs : List Value) {v : Value} (hf : P.funcs[f]? = some fn) (hb : fn.body = some c) (hn : Nat.ble vs.length fn.ntmps = true)
  (h : HT P c (bodyPost P fn (zq4 w0 v)) ⟨fn.ntmps, [], none⟩ (zaa 0 vs) (Hp w0 none' [])) : Pu P f vs.toArray w0 v := zn4 hf hb hn (Hp w0 none' []) (.start _ _) h
theorem zc2 {n : Nat} {fn : Func} {r : ResultVar} {v u : Value} (hf : fn.results = #[r]) (h1 : zfd P l (Hp w0 none' m) r u) (e : u = v) : HX (bodyPost P fn (zq4 w0 v)) .ret ⟨n, [], none⟩ l (Hp w0 none' m) :=
 qj7 hf h1 fun _ hw => ⟨by rw [e], hw.fr⟩
theorem zg8 {n : Nat} {fn : Func} {r q : ResultVar} {v u t : Value} (hf : fn.results = #[r, q]) (h1 : zfd P l (Hp w0 none' m) r u) (h2 : zfd P l (Hp w0 none' m) q t) (e : .tuple #[u, t] = v) : HX (bodyPost P fn (zq4 w0 v)) .ret ⟨n, [], none⟩ l (Hp w0 none' m) :=
 qjr hf h1 h2 fun _ hw => ⟨by rw [e], hw.fr⟩
theorem zag {d : Nat} {f : FuncId} {xs : List Operand} {tys : Array TypeId} {vs : List Value} {v : Value} (hok : zfj N l (.call ⟨.value (.func f), xs.toArray, tys⟩) d = true) (hb : zb9 P f = true) (hx : evs l xs = some vs)
  (hc : ∀ w, Hp w0 F m w → Pu P f vs.toArray w v) : HO P ⟨some d, .call ⟨.value (.func f), xs.toArray, tys⟩, ty, pos, after, g⟩ Q N l (Hp w0 F m) (α := Unit) (fun _ => (d, v) :: l) (fun _ => Hp w0 F m) :=
 zry (val := fun _ => v) hok (qgx hb hx) (fun w hw => (hc w hw).mono fun _ _ ⟨he, hf⟩ => ⟨(), he, hw.keep hf⟩)
def Ct (P : Program) (f : FuncId) (args : Array Value) (w : World) (Fc : Nat → Prop) {α : Type} (val : α → Value) (φ : α → Prop) (its : α → List Item) : Prop :=
 Calls P f args w fun e w' => ∃ x, e = .returned (val x) ∧ φ x ∧ Its Fc w (its x) w'
def zkv (w : World) (Fc : Nat → Prop) {α : Type} (val : α → Value) (φ : α → Prop) (its : α → List Item) : Ending → World → Prop := fun e w' => ∃ x, e = .returned (val x) ∧ φ x ∧ Its Fc w (its x) w'
theorem zfo {f : FuncId} {fn : Func} {c : Code} (vs : List Value) {α : Type} {val : α → Value} {φ : α → Prop} {its : α → List Item} (hf : P.funcs[f]? = some fn) (hb : fn.body = some c) (hn : Nat.ble vs.length fn.ntmps = true)
  (h : HT P c (bodyPost P fn (zkv w0 F val φ its)) ⟨fn.ntmps, [], none⟩ (zaa 0 vs) (Hp w0 F [])) : Ct P f vs.toArray w0 F val φ its := zn4 hf hb hn (Hp w0 F []) (.start _ _) h
theorem Ct.calls {f : FuncId} {args : Array Value} {w : World} {Fc : Nat → Prop} {α : Type} {val : α → Value} {φ : α → Prop} {its : α → List Item} (h : Ct P f args w Fc val φ its) : Calls P f args w fun e w' => ∃ x, e = .returned (val x) ∧ φ x ∧ Its Fc w (its x) w' := h
theorem zbw {n : Nat} {fn : Func} {r : ResultVar} {α : Type} {val : α → Value} {φ : α → Prop} {its : α → List Item} {u : Value} (x : α) (hf : fn.results = #[r]) (h1 : zfd P l (Hp w0 F m) r u) (e : u = val x) (hφ : φ x) (hs : (its x).Sublist m) (hst : ∀ it ∈ its x, it.Stable none') : HX (bodyPost P fn (zkv w0 F val φ its)) .ret ⟨n, [], none⟩ l (Hp w0 F m) :=
 qj7 hf h1 fun _ hw => ⟨x, by rw [e], hφ, hw.its hs hst⟩
theorem zdq {n : Nat} {fn : Func} {r q : ResultVar} {α : Type} {val : α → Value} {φ : α → Prop} {its : α → List Item} {u t : Value} (x : α) (hf : fn.results = #[r, q]) (h1 : zfd P l (Hp w0 F m) r u) (h2 : zfd P l (Hp w0 F m) q t) (e : .tuple #[u, t] = val x) (hφ : φ x) (hs : (its x).Sublist m) (hst : ∀ it ∈ its x, it.Stable none') : HX (bodyPost P fn (zkv w0 F val φ its)) .ret ⟨n, [], none⟩ l (Hp w0 F m) :=
 qjr hf h1 h2 fun _ hw => ⟨x, by rw [e], hφ, hw.its hs hst⟩
theorem qck {d : Nat} {f : FuncId} {xs : List Operand} {tys : Array TypeId} {vs : List Value} {α : Type} {val : α → Value} {φ : α → Prop} {its : α → List Item} (hok : zfj N l (.call ⟨.value (.func f), xs.toArray, tys⟩) d = true) (hb : zb9 P f = true) (hx : evs l xs = some vs)
  (hc : ∀ w, Hp w0 F m w → Ct P f vs.toArray w none' val φ its) : HO P ⟨some d, .call ⟨.value (.func f), xs.toArray, tys⟩, ty, pos, after, g⟩ Q N l (Hp w0 F m) (α := { x : α // φ x }) (fun x => (d, val x.1) :: l) (fun x => Hp w0 F (its x.1 ++ m)) :=
 zry (val := fun x : { x : α // φ x } => val x.1) hok (qgx hb hx) (fun w hw => (hc w hw).mono fun _ _ ⟨x, he, hx, hi⟩ => ⟨⟨x, hx⟩, he, hw.call0 hi⟩)
def zc1 (P : Program) (T : TypeId) : Option Nat := match P.info? T with | some ⟨_, _, sz, _, _, _, _, _, _, _⟩ => some sz | none => none
theorem zbp {T : TypeId} {n : Nat} (h : zc1 P T = some n) : ∃ i, P.info? T = some i ∧ i.size = n := by
 unfold zc1 at h
 split at h
 ·rename_i hi; exact ⟨_, hi, Option.some.inj h⟩
 ·cases h
def qc8 (P : Program) : List Field → Nat → Option Nat
 | ⟨_, t, off, _, _, _, _⟩ :: _, 0 => match zc1 P t with | some n => (bif Nat.beq n 0 then none else some off) | none => none
 | _ :: r, n + 1 => qc8 P r n
 | [], _ => none
def zlj (P : Program) (T : TypeId) (f : Nat) : Option Nat := match P.underlying T with | some (.struct fs) => qc8 P fs.toList f | _ => none
theorem zrp : ∀ {fs : List Field} {n o : Nat}, qc8 P fs n = some o → ∃ f, fs[n]? = some f ∧ f.offset = o ∧ ∃ i, P.info? f.type = some i ∧ i.size ≠ 0
 | ⟨_, t, off, _, _, _, _⟩ :: _, 0, o, h => by
  simp only [qc8] at h
  split at h
  ·rename_i n hn
   obtain ⟨i, hi, his⟩ := zbp hn
   cases hb : Nat.beq n 0
   ·rw [hb] at h
    refine ⟨_, rfl, Option.some.inj h, i, hi, fun e => ?_⟩
    rw [← his, e] at hb; cases hb
   ·rw [hb] at h; cases h
  ·cases h
 | _ :: r, n + 1, o, h => by
  obtain ⟨f, h1, h2⟩ := zrp (fs := r) (n := n) (o := o) h
  exact ⟨f, by simpa using h1, h2⟩
 | [], _, _, h => by simp [qc8] at h
theorem zfu {T : TypeId} {x : Operand} {f o b i : Nat} (hx : evO l x = some (.pointer (some ⟨b, i, none⟩))) (hf : zlj P T f = some o) : OV P (.fieldAddr T x f) ty l H (.pointer (some ⟨b, i + o, none⟩)) := fun _ _ _ w _ => by
 unfold zlj at hf
 split at hf
 ·rename_i fs hu
  obtain ⟨fd, h1, h2, q, h3, h4⟩ := zrp hf
  have h1' : fs[f]? = some fd := by simpa using h1
  have ha : (⟨b, i, none⟩ : Addr).add fd.offset = ⟨b, i + o, none⟩ := by rw [h2]; unfold Addr.add; split <;> simp_all
  simp only [execOp, zax hx, Instr.fieldAt, Sem.run_bind, run_underlying hu w, Result.andThen_ok, h1', Instr.sureAddr, Sem.run_pure, fieldPlace, sizeOf, typeInfo]
  simp [h3, h4, ha]
 ·cases hf
theorem zdi {T : TypeId} {x : Operand} {f o b : Nat} (hx : evO l x = some (.pointer (some ⟨b, 0, none⟩))) (hf : zlj P T f = some o) : OV P (.fieldAddr T x f) ty l H (.pointer (some ⟨b, o, none⟩)) := by
 have := zfu (H := H) (ty := ty) hx hf
 simpa using this
def qek (P : Program) (T : TypeId) : Option (Nat × Nat) := match P.underlying T with | some (.array n e) => (match zc1 P e with | some sz => some (n, sz) | none => none) | _ => none
def qdw (P : Program) (T : TypeId) : Option Nat := match P.underlying T with | some (.slice e) => zc1 P e | _ => none
theorem qjo {T : TypeId} {x y : Operand} {b i n sz : Nat} {k : IntKind} {j : Nat} (hx : evO l x = some (.pointer (some ⟨b, i, none⟩))) (hy : evO l y = some (.int k j)) (hT : qek P T = some (n, sz)) (h1 : j < n) : OV P (.indexAddr T x y) ty l H (.pointer (some ⟨b, i + j * sz, none⟩)) := fun _ _ _ w _ => by
 unfold qek at hT
 split at hT
 ·rename_i n' e hu
  split at hT
  ·rename_i sz' hs
   obtain ⟨q, hq, hqs⟩ := zbp hs
   simp only [Option.some.injEq, Prod.mk.injEq] at hT
   obtain ⟨rfl, rfl⟩ := hT
   have ha : (⟨b, i, none⟩ : Addr).add (j * sz') = ⟨b, i + j * sz', none⟩ := by unfold Addr.add; split <;> simp_all
   simp [execOp, zax hx, zax hy, Instr.indexAt, asIntOf, run_underlying hu w, Instr.sureAddr, h1, sizeOf, typeInfo, hq, hqs, ha]
  ·cases hT
 ·cases hT
theorem qej {T : TypeId} {x y : Operand} {b i n : Nat} {k : IntKind} {j : Nat} (hx : evO l x = some (.pointer (some ⟨b, i, none⟩))) (hy : evO l y = some (.int k j)) (hT : qek P T = some (n, 1)) (h1 : j < n) : OV P (.indexAddr T x y) ty l H (.pointer (some ⟨b, i + j, none⟩)) := by
 have := qjo (H := H) (ty := ty) hx hy hT h1
 rwa [Nat.mul_one] at this
theorem qkc {T : TypeId} {x y : Operand} {b i n c sz : Nat} {k : IntKind} {j : Nat} (hx : evO l x = some (.slice (some ⟨b, i, none⟩) n c)) (hy : evO l y = some (.int k j)) (hT : qdw P T = some sz) (h1 : j < n) : OV P (.indexAddr T x y) ty l H (.pointer (some ⟨b, i + j * sz, none⟩)) := fun _ _ _ w _ => by
 unfold qdw at hT
 split at hT
 ·rename_i e hu
  obtain ⟨q, hq, hqs⟩ := zbp hT
  have ha : (⟨b, i, none⟩ : Addr).add (j * sz) = ⟨b, i + j * sz, none⟩ := by unfold Addr.add; split <;> simp_all
  simp [execOp, zax hx, zax hy, Instr.indexAt, asIntOf, run_underlying hu w, h1, sizeOf, typeInfo, hq, hqs, ha]
 ·cases hT
theorem qma {T : TypeId} {x y : Operand} {b i n c : Nat} {k : IntKind} {j : Nat} (hx : evO l x = some (.slice (some ⟨b, i, none⟩) n c)) (hy : evO l y = some (.int k j)) (hT : qdw P T = some 1) (h1 : j < n) : OV P (.indexAddr T x y) ty l H (.pointer (some ⟨b, i + j, none⟩)) := by
 have := qkc (H := H) (ty := ty) hx hy hT h1
 rwa [Nat.mul_one] at this
end plainops
def Has (l : zat) : zat → Prop
 | [] => True
 | (t, v) :: r => get l t = some v ∧ Has l r
theorem Has.sub {l : zat} : ∀ {l' : zat}, Has l l' → ∀ p ∈ l', get l p.1 = some p.2
 | [], _, _, h => nomatch h
 | (t, v) :: r, h, p, hp => by
  rcases List.mem_cons.1 hp with rfl | hp
  ·exact h.1
  ·exact Has.sub h.2 p hp
def qld {α : Type} (w0 : World) (F : Nat → Prop) (N : Fm) (L : α → zat) (φ : α → Prop) (M : α → List Item) (μ : α → Nat) (x : α) : Act → World → Prop := ql7 N L (fun y w => φ y ∧ Hp w0 F (M y) w) μ x
theorem zct {c : Code} {α : Type} (L : α → zat) (φ : α → Prop) (M : α → List Item) (μ : α → Nat) (x₀ : α) (h₀ : Has l (L x₀)) (hφ : φ x₀) (hI : ∀ w, Hp w0 F m w → Hp w0 F (M x₀) w)
  (round : ∀ x, φ x → HT P c (Exit.then (qld w0 F N L φ M μ x) Q) N (L x) (Hp w0 F (M x))) : HT P (.loop c) Q N l (Hp w0 F m) :=
 qoh L (fun y w => φ y ∧ Hp w0 F (M y) w) μ x₀ h₀.sub (fun w hw => ⟨hφ, hI w hw⟩) fun x a w s ⟨hx, hw⟩ => round x hx a w s hw
theorem zay {α : Type} {L : α → zat} {φ : α → Prop} {M : α → List Item} {μ : α → Nat} {x : α} (y : α) (hl : Has l (L y)) (hφ : φ y) (hI : ∀ w, Hp w0 F m w → Hp w0 F (M y) w) (hm : μ y < μ x) : HX (Exit.then (qld w0 F N L φ M μ x) Q) .normal N l (Hp w0 F m) :=
 qmf y hl.sub (fun w hw => ⟨hφ, hI w hw⟩) hm
theorem qq1 {e : Exit} (l' : zat) (m' : List Item) (hl : Has l l') (hI : ∀ w, Hp w0 F m w → Hp w0 F m' w) (h : HX Q e N l' (Hp w0 F m')) : HX Q e N l (Hp w0 F m) := qnd l' _ hl.sub hI h
theorem Hp.none (w : World) (h : Hp w0 F m w) : Hp w0 F [] w := h.sub (List.nil_sublist _)
end memops
/-! ### Regions that draw their order: whatever only reads is taken first -/
section drawn
variable {S : World → Prop} {t : Nat}
def znl (Q : Exit → Act → World → Prop) : Exit → Act → World → Prop
 | .panic _, _, _ => False
 | .outgrown, _, _ => False
 | e, a, w => Q e a w
theorem zt1 {Q : Exit → Act → World → Prop} : ¬ LetsOut (znl Q) := fun ⟨_, _, h⟩ => h
def zld (P : Program) (r : List Oper) : Bool := P.follows .mixedOrders && r.all fun o => zyj o.op
theorem zsk {e : Exit} {a : Act} {w : World} (h : znl Q e a w) : Q e a w := by cases e <;> first | exact h | exact h.elim
def znf (P : Program) (ops : Array Oper) (Q : Exit → Act → World → Prop) (S : World → Prop) (t : Nat) : Nat → Array Bool → Act → World → Prop
 | 0, listed, a, w => Region.ready .any ops listed = [] ∧ Q .normal a w
 | n + 1, listed, a, w => (Region.ready .any ops listed = [] → Q .normal a w) ∧
  ∀ i ∈ Region.ready .any ops listed, wpOp P ops Q i (fun a' w' => (i < t → S w') ∧ znf P ops Q S t n (listed.setIfInBounds i true) a' w') a w
theorem zjj : ∀ (n : Nat) (listed : Array Bool) (a : Act) (w : World), znf P ops Q S t n listed a w → wpAny P .any ops Q n listed a w
 | 0, _, _, _, h => h
 | n + 1, _, _, _, h => ⟨h.1, fun i hi => wpOp_mono (fun a' w' h' => zjj n _ a' w' h'.2) (h.2 i hi)⟩
def qg5 (ops : Array Oper) (t : Nat) : Bool := Nat.ble ops.size t || (Region.sinkB .any ops t && Region.chainB .any ops t)
theorem qei (ht : qg5 ops t = true) {listed : Array Bool} (inv : HeadInv .any ops t listed) {i j : Nat} (hi : i ∈ Region.ready .any ops listed) (hlt : i < t) (hj : j ∈ Region.ready .any ops listed) : j < t := by
 simp only [qg5, Bool.or_eq_true, Bool.and_eq_true] at ht
 obtain ⟨hun, oi, hoi, -⟩ := mem_ready.1 hi
 obtain ⟨-, oj, hoj, -⟩ := mem_ready.1 hj
 have hil : i < ops.size := (Array.getElem?_eq_some_iff.1 hoi).1
 have hjl : j < ops.size := (Array.getElem?_eq_some_iff.1 hoj).1
 rcases ht with ht | ⟨h1, h2⟩
 ·have := Nat.le_of_ble_eq_true ht
  omega
 ·refine Classical.byContradiction fun hc => ?_
  exact tail_waits h1 h2 (by omega) inv _ i rfl (by omega) hun j (by omega) hj
theorem zwh {i : Nat} {oi : Oper} {v : Value} (hi : ops[i]? = some oi) (hsel : ∀ (j : Nat) (o : Oper) cs b, ops[j]? = some o → o.op ≠ .select cs b)
  (hQ : ∀ c a w, ¬ Q (.panic c) a w) (ht : qg5 ops t = true) (hit : i < t) :
  ∀ (fuel : Nat) (listed : Array Bool) (a : Act) (w : World), HeadInv .any ops t listed →
   (∀ j oj, ops[j]? = some oj → j ≠ i → listed.getD j true = false → (∀ e ∈ oj.after, Region.binds .any e = true → e.on ≠ i) → oi.apart ops oj = true) →
   i ∈ Region.ready .any ops listed → YieldsIf P ops S oi v a → S w →
   znf P ops Q S t fuel (listed.setIfInBounds i true) (a.put oi.dst v) w → znf P ops Q S t (fuel + 1) listed a w := by
 intro fuel
 induction fuel with
 | zero =>
  intro listed a w _ _ hr hy hS H
  refine ⟨fun h => (by rw [h] at hr; cases hr), fun j hj => ?_⟩
  by_cases hji : j = i
  ·subst hji; exact hy.wpOp hi hS ⟨fun _ => hS, H⟩
  ·have := ready_mono hj hji
   rw [H.1] at this
   cases this
 | succ fuel ih =>
  intro listed a w inv hfree hr hy hS H
  refine ⟨fun h => (by rw [h] at hr; cases hr), fun j hj => ?_⟩
  by_cases hji : j = i
  ·subst hji; exact hy.wpOp hi hS ⟨fun _ => hS, H⟩
  ·have hjlt : j < t := qei ht inv hr hit hj
   have h1 := H.2 j (ready_mono hj hji)
   obtain ⟨hjun, oj, hoj, hall⟩ := mem_ready.1 hj
   have hnot : ∀ e ∈ oj.after, Region.binds .any e = true → e.on ≠ i := fun e he hb heq => by
    have h2 := hall e he hb
    rw [heq, getD_both (mem_ready.1 hr).1] at h2
    cases h2
   have inv' := inv.set hj hjlt
   have hfree' : ∀ k ok, ops[k]? = some ok → k ≠ i → (listed.setIfInBounds j true).getD k true = false →
     (∀ e ∈ ok.after, Region.binds .any e = true → e.on ≠ i) → oi.apart ops ok = true := fun k ok hk hki hun hno => by
    refine hfree k ok hk hki ?_ hno
    by_cases hjk : j = k
    ·subst hjk; exact hjun
    ·rw [getD_set_ne true hjk] at hun; exact hun
   have h2 := wpOp_putIf hoj (hfree j oj hoj hji hjun hnot) (fun cs b => hsel i oi cs b hi) (fun cs b => hsel j oj cs b hoj) (fun c a w h => absurd h (hQ c _ w)) hy h1
   refine wpOp_mono (fun a' w' h3 => ⟨fun _ => h3.2.1 hjlt, ih (listed.setIfInBounds j true) a' w' inv' hfree' (ready_mono hr (Ne.symm hji)) h3.1 (h3.2.1 hjlt) ?_⟩) h2
   rw [Array.setIfInBounds_comm _ _ hji]
   exact h3.2.2
def HD (P : Program) (ops : Array Oper) (Q : Exit → Act → World → Prop) (S : World → Prop) (t : Nat) (N : Fm) (n : Nat) (listed : Array Bool) (l : zat) (H : World → Prop) : Prop :=
 HeadInv .any ops t listed → ∀ a w, St N l a → H w → znf P ops (znl Q) S t n listed a w
theorem zh3 (ops : Array Oper) (t : Nat) : HeadInv .any ops t (Array.replicate ops.size false) :=
 ⟨by simp, fun j oj _ h => (by rw [getD_replicate_false] at h; cases h), fun k _ hk => by simp [hk]⟩
theorem zzk {id : Nat} {r : List Oper} (t : Nat) (hm : zld P r = true) (hdr : ∀ w, H w → H w.drew)
  (h : HD P r.toArray Q H t N r.length (Array.replicate r.length false) l H) : HT P (.region id r.toArray true) Q N l H := fun a w s hw => by
 simp only [zld, Bool.and_eq_true, List.all_eq_true] at hm
 refine wpIn_mono (wpIn_region_any (Q := znl Q) hm.1 (qak (by simpa using hm.2) zt1 N.r _ _ _ _ (zjj (S := H) (t := t) _ _ _ _ ?_))) (fun _ _ _ h => zsk h)
 have := h (by simpa using zh3 r.toArray t) a w.drew s (hdr w hw)
 simpa using this
def zqj (ops : Array Oper) (t : Nat) (listed : Array Bool) (i : Nat) : Bool :=
 Nat.blt i t && (qg5 ops t && (Region.noSelect ops && (Region.free .any ops listed i && (Region.ready .any ops listed).contains i)))
theorem zvx {i : Nat} {oi : Oper} {n : Nat} {listed : Array Bool} {l' : zat} {v : Value} (hb : zqj ops t listed i = true) (hi : ops[i]? = some oi) (hS : ∀ w, H w → S w)
  (hy : ∀ a, St N l a → YieldsIf P ops S oi v a) (hl : ∀ a, St N l a → St N l' (a.put oi.dst v))
  (k : HD P ops Q S t N n (listed.setIfInBounds i true) l' H) : HD P ops Q S t N (n + 1) listed l H := by
 simp only [zqj, Bool.and_eq_true] at hb
 obtain ⟨h1, h2, h3, h4, h5⟩ := hb
 have hlt : i < t := Nat.le_of_ble_eq_true h1
 have hr : i ∈ Region.ready .any ops listed := by simpa using h5
 intro inv a w s hw
 exact zwh hi (Region.noSelect_spec h3) (fun c a w h => h.elim) h2 hlt n listed a w inv (Region.free_spec hi h4) hr (hy a s) (hS w hw) (k (inv.set hr hlt) _ w (hl a s) hw)
def nth {α : Type} : List α → Nat → Option α
 | [], _ => none
 | x :: _, 0 => some x
 | _ :: r, n + 1 => nth r n
theorem zpa {α : Type} : ∀ (l : List α) (n : Nat), nth l n = l[n]?
 | [], _ => rfl
 | _ :: _, 0 => rfl
 | _ :: r, n + 1 => by simp only [nth, zpa r n]; rfl
theorem zed {i : Nat} {o : Oper} (h : nth ops.toList i = some o) : ops[i]? = some o := by rw [zpa] at h; simpa using h
def qlq : List Nat → Nat → Bool
 | [], _ => false
 | x :: r, n => Nat.beq x n || qlq r n
def ql4 (listed : List Bool) : List Edge → Bool
 | [] => true
 | e :: r => (!Region.binds .any e || nth listed e.on == some true) && ql4 listed r
def qn2 : Op → Bool
 | .call ⟨.builtin .len, _, _⟩ | .call ⟨.builtin .cap, _, _⟩ | .call ⟨.builtin .min, _, _⟩ | .call ⟨.builtin .max, _, _⟩ => true
 | .call _ | .alloc _ | .box _ _ | .buildSlice _ _ _ | .insert _ _ _ _ | .store _ _ _ | .makeMap _ _ | .makeSlice _ _ _ | .mapUpdate _ _ _ _ | .mapEntry _ _ _ | .entryStore _ _ _ _ | .range _ _ | .next _ _ | .entry _ | .go _ | .defer _ | .panic _ => false
 | _ => true
def zzb (listed : List Bool) (E : List Nat) : Nat → List Oper → Option Nat
 | _, [] => none
 | i, o :: r => bif nth listed i == some false && (qn2 o.op && (!qlq E i && ql4 listed o.after.toList)) then some i else zzb listed E (i + 1) r
def pick (ops : Array Oper) (listed : Array Bool) (E : List Nat) : Option Nat := zzb listed.toList E 0 ops.toList
theorem zyg {n : Nat} {listed : Array Bool} (d : Nat) (v v' : Value) (h : get l d = some v) (e : v = v') (k : HD P ops Q S t N n listed ((d, v') :: l) H) : HD P ops Q S t N n listed l H := by
 intro inv a w s hw
 refine k inv a w ⟨s.size, s.defers, fun t u hu => ?_⟩ hw
 rw [zbi] at hu
 by_cases e' : d = t
 ·subst e'; rw [if_pos rfl] at hu; rw [← Option.some.inj hu, ← e]; exact s.slot _ _ h
 ·rw [if_neg e'] at hu; exact s.slot t u hu
theorem zdk {oi : Oper} {listed : Array Bool} {α : Type} {l' : α → zat} {H' : α → World → Prop} (hr0 : Region.ready .any ops listed = [t] ∧ Region.ready .any ops (listed.setIfInBounds t true) = []) (hi0 : nth ops.toList t = some oi) (hg : oi.guard = none)
  (h : HO P oi (znl Q) N l H l' H') (k : ∀ x, HX Q .normal N (l' x) (H' x)) : HD P ops Q S t N 1 listed l H := by
 intro inv a w s hw
 have hi := zed hi0
 obtain ⟨hr, hr'⟩ := hr0
 refine ⟨fun h => (by rw [hr] at h; cases h), fun j hj => ?_⟩
 obtain rfl : j = t := by rw [hr] at hj; simpa using hj
 unfold wpOp
 simp only [hi]
 rw [if_pos (by simp [Region.wanted, hg])]
 exact .inl (And.right <| h a w s hw _ fun x a' w' s' hw' => ⟨fun h => absurd h (Nat.lt_irrefl _), hr', k x a' w' s' hw'⟩)
theorem zbs {listed : Array Bool} (hr : Region.ready .any ops listed = []) (k : HX Q .normal N l H) : HD P ops Q S t N 0 listed l H :=
 fun _ a w s hw => ⟨hr, k a w s hw⟩
def okG (ops : Array Oper) (l : zat) (g : Option (Nat × Bool)) : Bool := match g with
 | none => true
 | some (j, want) => (match (ops[j]?).bind (·.dst) with | some t => (match get l t with | some (.bool c) => c == want | _ => false) | none => false)
theorem zi4 {g : Option (Nat × Bool)} {dst : Option Tmp} {op : Op} {ty : TypeId} {pos : String} {after : Array Edge} {a : Act} (s : St N l a) (h : okG ops l g = true) : Region.wanted ⟨dst, op, ty, pos, after, g⟩ (yielded ops a.tmps) = true := by
 cases g with
 | none => rfl
 | some jw =>
  obtain ⟨j, want⟩ := jw
  refine zir (o := ⟨dst, op, ty, pos, after, some (j, want)⟩) (b := true) s ?_
  simp only [okG, zmw] at h ⊢
  split at h
  ·split at h
   ·simpa using h
   ·cases h
  ·cases h
theorem d_v {i : Nat} (E : List Nat) {n d : Nat} {listed : Array Bool} {op : Op} {ty : TypeId} {pos : String} {after : Array Edge} {g : Option (Nat × Bool)} {v : Value} (_hp : pick ops listed E = some i)
  (hi : nth ops.toList i = some ⟨some d, op, ty, pos, after, g⟩) (hb : zqj ops t listed i = true) (hS : ∀ w, H w → S w) (hg : okG ops l g = true) (hok : zfj N l op d = true) (hv : OV P op ty l S v)
  (k : HD P ops Q S t N n (listed.setIfInBounds i true) ((d, v) :: l) H) : HD P ops Q S t N (n + 1) listed l H := by
 obtain ⟨hs, hN, hk⟩ := zeq hok
 exact zvx hb (zed hi) hS (fun a s => .inl ⟨zi4 s hg, fun w hw => by rw [s.exec _ hs hk, zjf _ _ none _ _ _ "" _ #[] _ none]; exact hv none "" #[] w hw⟩) (fun a s => s.put hN v) k
end drawn
theorem l_v {op : Op} {ty : TypeId} {pos : String} {after : Array Edge} {g : Option (Nat × Bool)} {d : Nat} {v : Value} (hg : okG ops l g = true) (hok : zfj N l op d = true) (hv : OV P op ty l H v)
  (k : HL P ops Q N rest ((d, v) :: l) H) : HL P ops Q N (⟨some d, op, ty, pos, after, g⟩ :: rest) l H := by
 intro a w s hw
 unfold wpListIn
 rw [if_pos (zi4 s hg)]
 exact (fun x => qim x.1 x.2 N.r) (qey hok hv a w s hw _ fun _ a' w' s' hw' => k a' w' s' hw')
theorem zak {α : Type} {w0 : World} {F : Nat → Prop} {m m' : List Item} {l' : α → zat} {H' : α → World → Prop} (hp : m.Perm m') (h : HO P o Q N l (Hp w0 F m') l' H') : HO P o Q N l (Hp w0 F m) l' H' :=
 fun a w s hw => h a w s (hw.perm hp)
theorem zci {α : Type} (a b : α) (l : List α) : (a :: b :: l).Perm (b :: a :: l) := .swap _ _ _
theorem zc9 {α : Type} (a b c : α) (l : List α) : (a :: b :: c :: l).Perm (c :: a :: b :: l) := (List.Perm.cons a (.swap _ _ _)).trans (.swap _ _ _)
theorem zdl {α : Type} (a b c d : α) (l : List α) : (a :: b :: c :: d :: l).Perm (d :: a :: b :: c :: l) := (List.Perm.cons a (zc9 _ _ _ _)).trans (.swap _ _ _)
theorem zhl {α : Type} (a b c d e : α) (l : List α) : (a :: b :: c :: d :: e :: l).Perm (e :: a :: b :: c :: d :: l) := (List.Perm.cons a (zdl _ _ _ _ _)).trans (.swap _ _ _)
theorem zju {w0 : World} {F : Nat → Prop} {m m' : List Item} (hp : m.Perm m') (h : HL P ops Q N rest l (Hp w0 F m')) : HL P ops Q N rest l (Hp w0 F m) := fun a w s hw => h a w s (hw.perm hp)
theorem zr1 {w0 : World} {F : Nat → Prop} {m m' : List Item} {c : Code} (hp : m.Perm m') (h : HT P c Q N l (Hp w0 F m')) : HT P c Q N l (Hp w0 F m) := fun a w s hw => h a w s (hw.perm hp)
theorem ov {op : Op} {ty : TypeId} {v : Value} (h : ∀ d pos after w, H w → (execOp (ev l) ⟨d, op, ty, pos, after, none⟩).run P w = .ok (.value v) w) : OV P op ty l H v := h
theorem OV.run {op : Op} {ty : TypeId} {v : Value} (h : OV P op ty l H v) : ∀ d pos after w, H w → (execOp (ev l) ⟨d, op, ty, pos, after, none⟩).run P w = .ok (.value v) w := h
end
attribute [irreducible] qld HL HT HX HD HO OV Pu Ct
theorem mm {α : Type _} {a : α} {l : List α} (h : a ∈ l := by repeat first | exact .head _ | apply List.Mem.tail) : a ∈ l := h
end Go.Eng
