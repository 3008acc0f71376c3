/- Ranges over a function: the round, the statement, the function that holds one; the iterator. Own work; no condition. -/
/- Rows of many cells an element: loads, stores, copies, makes; memory that is read alone (ghost heaps). Own work over the guide's laws; no condition. -/
/- strings.Builder: Grow of a fresh one, WriteString, String. -/
/- Short steps: an operation that tells a value, a test, a guard, each with its own search. Own work; no condition. -/
/- Keys are compared, and looked for: cmp.Less, slices.BinarySearch at strings; node.Find, Down. Own work; no condition. -/
/- Predicates over rows: slices.IndexFunc, ContainsFunc, node.every at strings and at ints; node.wide. Own work; no condition. -/
/- node: May, Cap, Fan, may, Find, Down. Own work; no condition. -/
/- node: may. Own work; no condition. -/
import Derived.Test.YtkkfifhaobjicaaGreatDoorHc00
import Derived.RangeFuncSeq
import Derived.RangeFuncRecord
import Derived.RangeFuncLeaves
import Derived.Test.YtkkfifhaobjicaaGreatDoorHc01
import Derived.Laws.CopyRow
import Derived.Laws.Pointers
import Derived.Lib.Builder
import Derived.Lib.MakeNoZero
import Derived.Lib.UnsafeStr
import Derived.Lib.AppendStr
import Derived.Test.YtkkfifhaobjicaaGreatDoorHc02
import Derived.Test.YtkkfifhaobjicaaGreatDoorProg
set_option maxRecDepth 100000
namespace Go.Eng
open Go.RowKit
section
variable {P : Program} {Q : Exit → Act → World → Prop} {N : Fm} {l : zaq} {H : World → Prop} {ops : Array Oper} {rest : List Oper} {w0 : World} {F : Nat → Prop} {m : List Item}
/-! ### Items at a callee's beginning -/
def zan (L : List Item) : Nat → Prop := fun k => ∃ it ∈ L, it.foot k
def za1 (it : Item) (w : World) : Prop := it.prop w ∧ it.Stable none' ∧ ∀ k, it.foot k → k < w.heap.size
theorem Item.Stable.ro {it : Item} (h : it.Stable none') (ro : Nat → Prop) : it.Stable ro := fun w w' hk hp => h w w' (fun k hk' => hk k (.inr (hk'.resolve_left fun f => f.elim))) hp
theorem Hp.begin {w : World} {L : List Item} (h : ∀ it ∈ L, za1 it w) (ha : L.Pairwise Item.Apart) (F : Nat → Prop) (hF : ∀ k, zan L k → F k) : Hp w F L w :=
 ⟨.refl _ _, fun it hm => ⟨(h it hm).1, (h it hm).2.1.ro _, fun k hk => ⟨(h it hm).2.2 k hk, fun _ => hF k ⟨it, hm, hk⟩⟩⟩, ha⟩
def zg3 (L : List Item) : Item := ⟨zan L, fun w => (∀ it ∈ L, za1 it w) ∧ L.Pairwise Item.Apart⟩
theorem zkc {L : List Item} {w : World} (h : ∀ it ∈ L, za1 it w) (ha : L.Pairwise Item.Apart) : za1 (zg3 L) w := by
 refine ⟨⟨h, ha⟩, fun w1 w2 hk hp => ⟨fun it hm => ?_, hp.2⟩, fun k ⟨it, hm, hk⟩ => (h it hm).2.2 k hk⟩
 obtain ⟨h1, h2, h3⟩ := hp.1 it hm
 have he : ∀ k, it.foot k → w2.heap[k]? = w1.heap[k]? := fun k hf => hk k (.inr ⟨it, hm, hf⟩)
 refine ⟨h2 w1 w2 (fun k hf => he k (hf.resolve_left fun f => f.elim)) h1, h2, fun k hf => ?_⟩
 have := he k hf
 have h4 := h3 k hf
 rw [fD h4] at this
 exact (bC.1 this).1
theorem zad (L : List Item) : (zg3 L).Stable none' := fun w1 w2 hk hp => by
 have h := zkc hp.1 hp.2
 exact h.2.1 w1 w2 hk hp
def Yd (P : Program) (ly : Nat) {σ : Type} (Y : σ → Item) (s : σ) (args : Array Value) (R : Bool → σ → Prop) : Prop :=
 ∀ w, za1 (Y s) w → YieldAt Fence.wide 0 P ly args w fun e w' => ∃ b s', e = .returned (.bool b) ∧ R b s' ∧ Its (Y s).foot w [Y s'] w'
theorem zp1 {ly : Nat} {x : Operand} {xs : List Operand} {vs : List Value} {tys : Array TypeId} {d : Option Tmp} {ty : TypeId} {pos : String} {after : Array Edge} {g : Option (Nat × Bool)} {w : World} {n : Next} (hf : evO l x = some (.func (.yield ly) #[] #[])) (hx : evs l xs = some vs) (hr : (Instr.yield ly vs.toArray).run P w = .ok n w) :
  (execOp (ev l) ⟨d, .call ⟨.value x, xs.toArray, tys⟩, ty, pos, after, g⟩).run P w = .ok n w := by
 simp only [execOp, resolve, Deferred.ofValue, zau hf, fF, zhz hx]
 simp [invoke, hr]
theorem qfu {d : Nat} {ly : Nat} {x : Operand} {xs : List Operand} {vs : List Value} {tys : Array TypeId} {ty : TypeId} {pos : String} {after : Array Edge} {g : Option (Nat × Bool)} {σ : Type} {Y : σ → Item} {s : σ} {R : Bool → σ → Prop}
  (hg : okG ops l g = true) (hok : ze5 N l (.call ⟨.value x, xs.toArray, tys⟩) d = true) (hf : evO l x = some (.func (.yield ly) #[] #[])) (hx : evs l xs = some vs) (hst : (Y s).Stable none') (hy : Yd P ly Y s vs.toArray R)
  (k : ∀ b s', R b s' → HL P ops Q N rest ((d, .bool b) :: l) (Hp w0 F (Y s' :: m))) : HL P ops Q N (⟨some d, .call ⟨.value x, xs.toArray, tys⟩, ty, pos, after, g⟩ :: rest) l (Hp w0 F (Y s :: m)) := by
 unfold HL at *
 obtain ⟨hs, hN, hk⟩ := ze1 hok
 intro a w st hw
 unfold wpListIn
 rw [if_pos (zjq st hg)]
 refine ⟨fun _ _ => trivial, ?_⟩
 have hin := hw.item (Y s) sQ
 obtain ⟨fn, tmps, asg, body, hr, hround⟩ := hy w ⟨hin.1, hst, fun k hk => (hin.2.2 k hk).1⟩
 rw [Oper.semAt_eq _ _ _ (zmt (zlk hok)), st.exec _ hs hk, zp1 hf hx hr, Oper.uponIn_round]
 have h1 : RoundIn (fw N.r) 0 P ly fn tmps asg body w _ := hround
 refine ⟨zkh _, h1.mono fun e w' ⟨b, s', he, hR, hi⟩ => ?_⟩
 subst he
 have hw' : Hp w0 F ([Y s'] ++ m) w' := Hp.call (m := [Y s]) hw hi (fun k _ hk => ⟨Y s, by simp, hk⟩)
 exact k b s' hR _ _ (st.put hN _) hw'
end
section
variable {P : Program} {Q : Exit → Act → World → Prop} {N : Fm} {l : zaq} {H : World → Prop} {ops : Array Oper} {rest : List Oper} {w0 : World} {F : Nat → Prop} {m : List Item}
structure Rc where
 fn : FuncId
 tmps : Array Value
 ps : Array Tmp
 assign : Code
 body : Code
 D : Nat
def Rc.at (c : Rc) (st : LoopState) (pe : Option Code) : Obj := .loop { state := st, pending := pe, fn := c.fn, tmps := c.tmps, params := c.ps, assign := c.assign, body := c.body, defers := c.D }
theorem Hp.its1 {W w : World} {Fb : Nat → Prop} {L : List Item} (h : Hp W Fb L w) (hs : ∀ it ∈ L, it.Stable none') : Its Fb W [zg3 L] w := by
 refine ⟨h.fr, fun it hm => ?_, .cons (fun _ h => by cases h) .nil⟩
 obtain rfl : it = zg3 L := by simpa using hm
 refine ⟨⟨fun it hm => ⟨(h.item it hm).1, hs it hm, fun k hk => ((h.item it hm).2.2 k hk).1⟩, h.apart⟩, zad L, fun k ⟨it, hm, hk⟩ => (h.item it hm).2.2 k hk⟩
theorem Hp.open1 {w : World} {L m : List Item} (h : Hp w0 F (zg3 L :: m) w) : Hp w0 F (L ++ m) w := by
 have hb := h.item (zg3 L) sQ
 refine ⟨h.fr, fun it hm => ?_, bP.2 ⟨hb.1.2, (bL.1 h.apart).2, fun x hx y hy k hkx hky => ?_⟩⟩
 ·rcases aS.1 hm with hm | hm
  ·obtain ⟨h1, h2, h3⟩ := hb.1.1 it hm
   exact ⟨h1, h2.ro _, fun k hk => hb.2.2 k ⟨it, hm, hk⟩⟩
  ·exact h.item it (List.mem_cons_of_mem _ hm)
 ·exact (bL.1 h.apart).1 y hy k ⟨x, hx, hkx⟩ hky
theorem Hp.put {W w : World} {Fb : Nat → Prop} {b : Nat} {o : Obj} (h : Hp W Fb (pt b o :: m) w) (o' : Obj) : Hp W Fb (pt b o' :: m) (w.putObj b o') :=
 h.turn o' (World.putObj_heap_same (bC.1 (h.get (o := o) sQ)).1) (fun _ hk => World.putObj_heap_other hk) World.putObj_size rfl rfl rfl
def qr4 {σ : Type} (I J : Option Code → σ → Prop) (pe : Option Code) (s : σ) : Prop := match pe with | none => I none s | some c => J (some c) s
def qoh (e : Exit) (pe : Option Code) : Prop := match e with | .normal => pe = none | .ret => pe = some .ret | .exit id => pe = some (.exit id) | _ => False
def qh7 {σ : Type} (ly : Nat) (rc : Rc) (B : σ → List Item) (I J : Option Code → σ → Prop) (L : List Item) (W : World) : Ending → World → Prop := fun e w' =>
 ∃ (pe : Option Code) (s' : σ), e = .returned (.bool pe.isNone) ∧ qr4 I J pe s' ∧ Its (zan L) W [zg3 (pt ly (rc.at (if pe.isNone then .ready else .done) pe) :: B s')] w'
theorem znv {σ : Type} {ly : Nat} {rc : Rc} {B : σ → List Item} {I J : Option Code → σ → Prop} {L : List Item} {W : World} (e : Exit) (pe : Option Code)
  (he : qoh e pe) (s' : σ) (hI : qr4 I J pe s') (hs : (B s').Sublist m) (hst : ∀ it ∈ B s', it.Stable none') :
  HX (roundPost P ly (qh7 ly rc B I J L W)) e N l (Hp W (zan L) (pt ly (rc.at .busy none) :: m)) := by
 unfold HX
 intro a w st hw
 have hrec := hw.get (b := ly) (o := rc.at .busy none) sQ
 have hend := run_endRound (P := P) pe hrec
 have hw2 : Hp W (zan L) (pt ly (rc.at (if pe.isNone then .ready else .done) pe) :: B s') (w.putObj ly (rc.at (if pe.isNone then .ready else .done) pe)) := (hw.put _).sub (.cons_cons _ hs)
 have hT : qh7 ly rc B I J L W (.returned (.bool pe.isNone)) (w.putObj ly (rc.at (if pe.isNone then .ready else .done) pe)) :=
  ⟨pe, s', rfl, hI, hw2.its1 fun it hm => (aJ.1 hm).elim (fun h => h ▸ zac _ _ _) (hst it)⟩
 cases e with
 | normal => subst he; exact ⟨_, _, hend, hT⟩
 | ret => subst he; exact ⟨_, _, hend, hT⟩
 | exit id => subst he; exact ⟨_, _, hend, hT⟩
 | _ => exact he.elim
def zxn (P : Program) (ly : Nat) (body : Code) (R : Ending → World → Prop) : Exit → Act → World → Prop :=
 Exit.then (fun a₁ w₁ => ∃ w₂, (Instr.beginRound ly).run P w₁ = .ok () w₂ ∧ WP P (some ly) body (roundPost P ly R) a₁ w₂) (fun _ _ _ => False)
theorem qkf {n : Nat} {ds : List Deferred} {ly : Nat} {rc : Rc} {body : Code} {R : Ending → World → Prop} {W : World} {Fb : Nat → Prop}
  (h : HT P body (roundPost P ly R) ⟨n, ds, some ly⟩ l (Hp W Fb (pt ly (rc.at .busy none) :: m))) : HX (zxn P ly body R) .normal ⟨n, ds, some ly⟩ l (Hp W Fb (pt ly (rc.at .ready none) :: m)) := by
 unfold HX HT at *
 intro a w st hw
 exact ⟨_, run_beginRound (hw.get (b := ly) (o := rc.at .ready none) sQ) rfl, h _ _ st (hw.put _)⟩
def znk : List (Nat × Value) → zaq → zaq
 | [], l => l
 | p :: r, l => znk r (p :: l)
theorem St.round {n : Nat} {ly : Option Nat} : ∀ (ps : List (Nat × Value)) {l : zaq} {a : Act}, St ⟨n, [], ly⟩ l a → (∀ p ∈ ps, p.1 < n) → St ⟨n, [], ly⟩ (znk ps l) { a with tmps := ps.foldl (fun t (p, v) => t.setIfInBounds p v) a.tmps }
 | [], _, _, s, _ => s
 | (p, v) :: r, l, a, s, h => St.round r (a := { a with tmps := a.tmps.setIfInBounds p v }) (s.put (h (p, v) sQ) v) (fun q hq => h q (by simp [hq]))
theorem qe5 {β : Type} {f : β → Nat × Value → β} (ps : Array Nat) (vs : List Value) (t : β) : (ps.zip vs.toArray).foldl f t = (ps.toList.zip vs).foldl f t := by
 rw [← Array.foldl_toList]; simp
end
section
variable {P : Program} {Q : Exit → Act → World → Prop} {l : zaq} {w0 : World} {F : Nat → Prop} {m : List Item} {fn : Func} {R : Ending → World → Prop}
/-! ### A function that ranges over a function: its end -/
def zop (P : Program) (fn : Func) (R : Ending → World → Prop) : Exit → Act → World → Prop := bodyPostM (fw none) 0 P fn R
def zq6 (D : Nat) : Item := pt D (.deferred (some []))
theorem ziz {tmps : Array Value} (h : ∀ w, Hp w0 F m w → LeavesInM (fw none) 0 P fn tmps R [] .returning w) : ∀ (ds : List Nat) (w : World), Hp w0 F (ds.map zq6 ++ m) w → LeavesInM (fw none) 0 P fn tmps R (ds.map zeq) .returning w
 | [], w, hw => h w hw
 | D :: ds, w, hw => by
  have hD := hw.get (b := D) (o := .deferred (some [])) (by simp [zq6])
  have h1 : Hp w0 F (pt D (.deferred none) :: (ds.map zq6 ++ m)) (w.putObj D (.deferred none)) := Hp.put (m := ds.map zq6 ++ m) hw _
  exact ⟨by simp, .inl ⟨D, _, rfl, run_takeDeferred hD, ziz h ds _ (h1.sub (fO _ _))⟩⟩
theorem zzx {n : Nat} (ds : List Nat) (h : HX (bodyPost P fn R) .ret ⟨n, [], none⟩ l (Hp w0 F m)) : HX (zop P fn R) .ret ⟨n, ds.map zeq, none⟩ l (Hp w0 F (ds.map zq6 ++ m)) := by
 unfold HX at *
 intro a w st hw
 have h1 : LeavesInM (fw none) 0 P fn a.tmps R a.defers .returning w := by
  rw [st.defers]
  exact ziz (fun w' hw' => (h { a with defers := [] } w' ⟨st.size, rfl, st.slot⟩ hw').2) ds w hw
 exact h1
theorem qki {n : Nat} (ds : List Nat) (h : HX (bodyPost P fn R) .normal ⟨n, [], none⟩ l (Hp w0 F m)) : HX (zop P fn R) .normal ⟨n, ds.map zeq, none⟩ l (Hp w0 F (ds.map zq6 ++ m)) := by
 unfold HX at *
 intro a w st hw
 have h1 : LeavesInM (fw none) 0 P fn a.tmps R a.defers .returning w := by
  rw [st.defers]
  exact ziz (fun w' hw' => (h { a with defers := [] } w' ⟨st.size, rfl, st.slot⟩ hw').2) ds w hw
 exact h1
theorem zjf {n : Nat} (h : HX (bodyPost P fn R) .ret ⟨n, [], none⟩ l (Hp w0 F m)) : HX (zop P fn R) .ret ⟨n, [], none⟩ l (Hp w0 F m) := zzx [] h
theorem qn3 {n D : Nat} (h : HX (bodyPost P fn R) .ret ⟨n, [], none⟩ l (Hp w0 F m)) : HX (zop P fn R) .ret ⟨n, [zeq D], none⟩ l (Hp w0 F (pt D (.deferred (some [])) :: m)) := zzx [D] h
theorem qhd {vs : List Value} {n : Nat} (hn : Nat.ble vs.length n = true) : St ⟨n, [], none⟩ (zaa 0 vs) { tmps := vs.toArray ++ Array.replicate (n - vs.toArray.size) undef, defers := [] } := by
 refine ⟨by simp at hn ⊢; omega, rfl, fun t v hv => ?_⟩
 obtain ⟨-, h2⟩ := znb vs 0 t v hv
 simp only [Nat.sub_zero] at h2
 have hlt : t < vs.length := (aM.1 h2).1
 rw [jK (by simpa using hlt)]
 simpa using h2
theorem zu6 {f : FuncId} {c : Code} {vs : List Value} {w₀ : World} (hf : P.funcs[f]? = some fn) (hb : fn.body = some c) (hn : Nat.ble vs.length fn.ntmps = true) (H : World → Prop) (hH : H w₀)
  (h : HT P c (zop P fn R) ⟨fn.ntmps, [], none⟩ (zaa 0 vs) H) : Calls P f vs.toArray w₀ R := by
 unfold HT at h
 exact (callsIn_wide (n := 0)).1 (callsIn_of_wp_marks hf hb trivial (h _ _ (qhd hn) hH) rfl)
theorem zbb {f : FuncId} {c : Code} (vs : List Value) (pre : List Item) {α : Type} {val : α → Value} {φ : α → Prop} {its : α → List Item} (hf : P.funcs[f]? = some fn) (hb : fn.body = some c) (hn : Nat.ble vs.length fn.ntmps = true)
  (hp : ∀ it ∈ pre, za1 it w0) (ha : pre.Pairwise Item.Apart)
  (h : HT P c (bodyPost P fn (zk5 w0 (zan pre) val φ its)) ⟨fn.ntmps, [], none⟩ (zaa 0 vs) (Hp w0 (zan pre) pre)) : Ct P f vs.toArray w0 (zan pre) val φ its := by
 unfold Ct; exact zn7 hf hb hn (Hp w0 (zan pre) pre) (.begin hp ha _ fun _ h => h) h
theorem zg5 {Q : Exit → Act → World → Prop} {N : Fm} {d : Nat} {f : FuncId} {xs : List Operand} {tys : Array TypeId} {vs : List Value} {ty : TypeId} {pos : String} {after : Array Edge} {g : Option (Nat × Bool)} {pre : List Item} {α : Type} {val : α → Value} {φ : α → Prop} {its : α → List Item}
  (hok : ze5 N l (.call ⟨.value (.func f), xs.toArray, tys⟩) d = true) (hb : zbu P f = true) (hx : evs l xs = some vs) (hst : ∀ it ∈ pre, it.Stable none')
  (hc : ∀ w, Hp w0 F (pre ++ m) w → (∀ it ∈ pre, za1 it w) → pre.Pairwise Item.Apart → Ct P f vs.toArray w (zan pre) val φ its) :
  HO P ⟨some d, .call ⟨.value (.func f), xs.toArray, tys⟩, ty, pos, after, g⟩ Q N l (Hp w0 F (pre ++ m)) (α := { x : α // φ x }) (fun x => (d, val x.1) :: l) (fun x => Hp w0 F (its x.1 ++ m)) :=
 zr1 (val := fun x : { x : α // φ x } => val x.1) hok (qe1 hb hx) (fun w hw => (Ct.calls (hc w hw (fun it hm => have h := hw.item it (aK _ hm); ⟨h.1, hst it hm, fun k hk => (h.2.2 k hk).1⟩) (bP.1 hw.apart).1)).mono fun _ _ ⟨x, he, hx, hi⟩ => ⟨⟨x, hx⟩, he, hw.call hi fun _ _ ⟨it, hm, hk⟩ => ⟨it, hm, hk⟩⟩)
end
theorem zn5 {P : Program} {l : zaq} {H : World → Prop} {ty : TypeId} {f : FuncId} {xs : List Operand} {vs : List Value} (hx : evs l xs = some vs) : OV P (.makeFunc (.func f) #[] xs.toArray) ty l H (.func (.func f) #[] vs.toArray) := ov fun d pos after w _ => by
 simp only [execOp, fF, zhz hx]
 simp [Instr.makeFunc]
 try rfl
theorem za8 {P : Program} {w0 : World} {F : Nat → Prop} {m : List Item} {T : TypeId} {b : Nat} {v : Value} {E : TypeId} {fz : Nat × Nat} (hT : zpi P T = true) (hm : pt b (.cells #[v] E fz) ∈ m) : ∀ w, Hp w0 F m w → (loadVar T ⟨b, 0, none⟩).run P w = .ok v w := fun w hw => by
 have := zwm (P := P) hT (zdv (i := 0) (hw.get hm) (v := v) rfl)
 simpa [Instr.loadAt, Instr.sureAddr] using this
theorem lCu {P : Program} {Q : Exit → Act → World → Prop} {N : Fm} {l : zaq} {ops : Array Oper} {rest : List Oper} {w0 : World} {F : Nat → Prop} {m : List Item} (pre : List Item) {d : Nat} {f : FuncId} {xs : List Operand} {tys : Array TypeId} {vs : List Value} {ty : TypeId} {pos : String} {after : Array Edge} {g : Option (Nat × Bool)} {α : Type} {val : α → Value} {φ : α → Prop} {its : α → List Item} (hx : evs l xs = some vs) (hst : ∀ it ∈ pre, it.Stable none')
 (hc : ∀ w, Hp w0 F (pre ++ m) w → (∀ it ∈ pre, za1 it w) → pre.Pairwise Item.Apart → Ct P f vs.toArray w (zan pre) val φ its) (k : ∀ x : { x : α // φ x }, HL P ops Q N rest ((d, val x.1) :: l) (Hp w0 F (its x.1 ++ m))) (hg : okG ops l g = true := by rfl) (hok : ze5 N l (.call ⟨.value (.func f), xs.toArray, tys⟩) d = true := by rfl) (hb : zbu P f = true := by kernel_rfl) : HL P ops Q N (⟨some d, .call ⟨.value (.func f), xs.toArray, tys⟩, ty, pos, after, g⟩ :: rest) l (Hp w0 F (pre ++ m)) := zgt hg (zg5 hok hb hx hst hc) k
variable {P : Program} {Q : Exit → Act → World → Prop} {N : Fm} {l : zaq} {H : World → Prop} {ops : Array Oper} {rest : List Oper} {w0 : World} {F : Nat → Prop} {m : List Item} {ty : TypeId} {pos : String} {after : Array Edge} {g : Option (Nat × Bool)} {d : Nat}
/-! ### elements of several cells -/
def zc4 {α : Type} (enc : α → List Value) (L : List α) : List Value := L.flatMap enc
section
variable {α : Type} {enc : α → List Value} {sz : Nat}
theorem znn (hsz : ∀ a, (enc a).length = sz) (L : List α) : (zc4 enc L).length = L.length * sz := by
 induction L with
 | nil => simp [zc4]
 | cons a L ih => simp only [zc4, aW, aA, aZ] at ih ⊢; rw [ih, hsz, iH, jZ, gA]
theorem zi5 (L M : List α) : zc4 enc (L ++ M) = zc4 enc L ++ zc4 enc M := by simp [zc4]
theorem qg2 (a : α) : zc4 enc [a] = enc a := by simp [zc4]
theorem zgk (a : α) (L : List α) : zc4 enc (a :: L) = enc a ++ zc4 enc L := by simp [zc4]
theorem qdh (hsz : ∀ a, (enc a).length = sz) (L : List α) (i : Nat) : zc4 enc (L.drop i) = (zc4 enc L).drop (i * sz) := by
 induction L generalizing i with
 | nil => simp [zc4]
 | cons a L ih =>
  cases i with
  | zero => simp [zc4]
  | succ i =>
   have h1 : (enc a).drop ((i + 1) * sz) = [] := gG (by rw [hsz, iH]; omega)
   have h2 : (i + 1) * sz - (enc a).length = i * sz := by rw [hsz, iH]; omega
   rw [List.drop_succ_cons, zgk, ih, dS, h1, h2, aI]
theorem qa1 (hsz : ∀ a, (enc a).length = sz) {L : List α} {i : Nat} (hi : i < L.length) {j : Nat} (hj : j < sz) : (zc4 enc L)[i * sz + j]? = (enc L[i])[j]? := by
 have h := qdh hsz L i
 rw [bY hi, zgk] at h
 have h2 := congrArg (fun x => x[j]?) h
 simp only [eA] at h2
 rw [← h2, cE (by rw [hsz]; exact hj)]
end
theorem Rd.at_ {w : World} {a : Option Addr} {xs : List Value} (h : Rd w a xs) (h0 : xs ≠ []) : ∃ b off, a = some ⟨b, off, none⟩ ∧ w.rangeAt b off xs := by
 rcases h with h | ⟨b, off, h1, h2⟩
 ·exact absurd h h0
 ·exact ⟨b, off, h1, h2⟩
theorem Rd.row {w : World} {b off : Nat} {α : Type} {enc : α → List Value} {sz : Nat} (hsz : ∀ a, (enc a).length = sz) {L : List α} (h : w.rangeAt b off (zc4 enc L)) {i : Nat} (hi : i < L.length) : w.rangeAt b (off + i * sz) (enc L[i]) := fun j v hv => by
 have hj : j < sz := by have := (aM.1 hv).1; rwa [hsz] at this
 rw [eH]
 exact h _ _ (by rw [qa1 hsz hi hj]; exact hv)
theorem Rd.mk {w : World} {b off : Nat} {xs : List Value} (h : w.rangeAt b off xs) : Rd w (some ⟨b, off, none⟩) xs := .inr ⟨b, off, rfl, h⟩
theorem zfx {w : World} {b off k : Nat} {xs : List Value} (h : w.rangeAt b off xs) : w.rangeAt b off (xs.take k) := fun j v hv => by
 rw [List.getElem?_take] at hv
 split at hv
 ·exact h j v hv
 ·cases hv
theorem zg8 {w : World} {b off k : Nat} {xs : List Value} (h : w.rangeAt b off xs) : w.rangeAt b (off + k) (xs.drop k) := fun j v hv => by
 rw [eA] at hv
 rw [eH]; exact h _ v hv
theorem zbe {w : World} {b off : Nat} {xs : List Value} (h : w0.rangeAt b off xs) (hF : ¬ F b) (hw : Hp w0 F m w) : w.rangeAt b off xs := fun j v hv => hw.old hF (h j v hv)
theorem za7 {w : World} {b : Nat} {cs : List Value} {E : TypeId} {fz : Nat × Nat} (h : w.heap[b]? = some (.cells cs.toArray E fz)) : w.rangeAt b 0 cs := fun j v hv => by
 rw [aF, cell_of_row w b j _ E fz h]; simpa using hv
theorem zel {w : World} {e : TypeId} {sz n b c : Nat} {xs : List Value} (h : (own e sz (some (b, c)) n xs).prop w) : w.rangeAt b 0 xs := fun j v hv => by rw [aF]; exact zbm h j v hv
theorem zjb {T : TypeId} {x : Operand} {b off : Nat} {xs : List Value} (hx : evO l x = some (.pointer (some ⟨b, off, none⟩))) (hT : zwk P T = some xs.length)
  (hr : ∀ w, H w → w.rangeAt b off xs) : OV P (.load T x) ty l H (.agg xs.toArray) := ov fun _ _ _ w hw => by
 have hl : (loadVar T ⟨b, off, none⟩).run P w = .ok (.agg xs.toArray) w := by
  unfold zwk at hT
  split at hT
  ·rename_i hu; exact run_loadVar_mid (P := P) w b off T _ _ (hr w hw) hu rfl hT
  ·rename_i hu; exact run_loadVar_mid (P := P) w b off T _ _ (hr w hw) hu rfl hT
  ·cases hT
 simp only [execOp, zau hx, Instr.loadAt, Instr.sureAddr, Sem.run_bind, Sem.run_pure, Result.andThen_ok, hl]
theorem zft {T : TypeId} {x : Operand} {b off : Nat} {xs : List Value} {c : Array Value} (hx : evO l x = some (.pointer (some ⟨b, off, none⟩))) (hT : zwk P T = some xs.length)
  (hr : ∀ w, H w → w.rangeAt b off xs) (hc : xs.toArray = c) : OV P (.load T x) ty l H (.agg c) := by subst hc; exact zjb hx hT hr
/-! ### writes into a block -/
def put (cs : List Value) (off : Nat) (vs : List Value) : List Value := cs.take off ++ vs ++ cs.drop (off + vs.length)
theorem zgj {cs : List Value} {off : Nat} {vs : List Value} (h : off + vs.length ≤ cs.length) : (put cs off vs).length = cs.length := by
 simp [put]; omega
theorem Hp.setRow {w : World} {b : Nat} {cur : Array Value} {E : TypeId} {fz : Nat × Nat} (hw : Hp w0 F (pt b (.cells cur E fz) :: m) w) (cs' : Array Value) : Hp w0 F (pt b (.cells cs' E fz) :: m) (w.setRow b cs') :=
 hw.turn _ (setRow_heap w b cur cs' E fz (hw.get sQ)) (fun k hk => setRow_other w b k _ hk) sQ rfl rfl rfl
theorem qjl {T : TypeId} {x y : Operand} {b off : Nat} {cs : List Value} {vs : Array Value} {E : TypeId} (hok : (zhi (.store T x y) && zes l (.store T x y)) = true)
  (hx : evO l x = some (.pointer (some ⟨b, off, none⟩))) (hy : evO l y = some (.agg vs)) (hT : (P.info? T).map (·.size) = some vs.size) (h1' : zbx vs.toList = true) (hs : off + vs.size ≤ cs.length) :
  HO P ⟨none, .store T x y, ty, pos, after, g⟩ Q N l (Hp w0 F (pt b (.cells cs.toArray E (0, 0)) :: m)) (α := Unit) (fun _ => l) (fun _ => Hp w0 F (pt b (.cells (put cs off vs.toList).toArray E (0, 0)) :: m)) :=
 zwa hok (fun w hw => by
  have hb := hw.get (b := b) (o := .cells cs.toArray E (0, 0)) sQ
  have hst := run_storeCells_at P b off E vs.toList 0 cs.toArray w hb (by simpa using hs) (za5.1 h1')
  refine ⟨(), w.setRow b (put cs off vs.toList).toArray, ?_, hw.setRow _⟩
  cases hq : P.info? T with
  | none => simp [hq] at hT
  | some i =>
   have hsz : i.size = vs.size := by simpa [hq] using hT
   simp only [fH] at hst
   simp [execOp, zau hx, zau hy, Instr.storeAt, Instr.sureAddr, storeVar, sizeOf, typeInfo, hq, Value.cells, hsz]
   rw [hst]
   simp [put])
theorem zuf (w : World) (dT sT ty elem : TypeId) (sz b o dLen dCap : Nat) (a : Option Addr) (sLen sCap : Nat) (cur : Array Value) (t : TypeId) (cs : List Value)
  (hu : P.underlying dT = some (.slice elem)) (hs : (P.info? elem).map (·.size) = some sz) (hg : w.heap[b]? = some (.cells cur t (0, 0))) (hn : cs.length = Nat.min sLen dLen * sz)
  (hsrc : Rd w a cs) (h0 : a = none → sLen = 0) (hfit : o + cs.length ≤ cur.size) (h1 : ∀ v ∈ cs, v.oneCell' = true) :
  (Builtin.copy_ #[dT, sT] ty #[.slice (some ⟨b, o, none⟩) dLen dCap, .slice a sLen sCap]).run P w = .ok (goInt (Nat.min sLen dLen)) (w.setRow b (put cur.toList o cs).toArray) := by
 have hst := run_storeCells_at P b o t cs 0 cur w hg (by simpa using hfit) h1
 simp only [fH] at hst
 cases hq : P.info? elem with
 | none => simp [hq] at hs
 | some i =>
  have hi : i.size = sz := by simpa [hq] using hs
  cases a with
  | none =>
   obtain rfl := h0 rfl
   have hmin : Nat.min 0 dLen = 0 := Nat.zero_min _
   rw [hmin, kM] at hn
   obtain rfl : cs = [] := bM hn
   simp [Builtin.copy_, run_underlying hu, Builtin.lenOf, Builtin.firstCells, sizeOf, typeInfo, hq, hmin]
   simp [storeCells]
   simp [put]
   exact (setRow_self w b cur t (0, 0) hg).symm
  | some a =>
   have hl : ∀ k, cs.length = k → (loadCells a k).run P w = .ok cs.toArray w := fun k hk => by
    subst hk
    refine run_loadCells_list (P := P) w a cs fun j v hv => ?_
    rcases hsrc with h | ⟨b', off', h, h2⟩
    ·subst h; simp at hv
    ·obtain rfl := cJ h
     rw [zc9]; exact h2 j v hv
   have := hl _ hn
   simp [Builtin.copy_, run_underlying hu, Builtin.lenOf, Builtin.firstCells, sizeOf, typeInfo, hq, hi, this]
   rw [hst]
   simp [put]
theorem zh4 {dT sT e : TypeId} {x y : Operand} {b o n c sLen sCap sz : Nat} {a : Option Addr} {cur cs : List Value} {t : TypeId} (hok : ze5 N l (.call ⟨.builtin .copy, #[x, y], #[dT, sT]⟩) d = true)
  (hx : evO l x = some (.slice (some ⟨b, o, none⟩) n c)) (hy : evO l y = some (.slice a sLen sCap)) (hT : zks P dT = some e) (he : zc3 P e = some sz) (hn : cs.length = min sLen n * sz)
  (hsrc : ∀ w, Hp w0 F (pt b (.cells cur.toArray t (0, 0)) :: m) w → Rd w a cs) (h0 : a = none → sLen = 0) (hfit : o + cs.length ≤ cur.length) (h1 : zbx cs = true) :
  HO P ⟨some d, .call ⟨.builtin .copy, #[x, y], #[dT, sT]⟩, ty, pos, after, g⟩ Q N l (Hp w0 F (pt b (.cells cur.toArray t (0, 0)) :: m)) (α := Unit) (fun _ => (d, .int .i64 (min sLen n : Nat)) :: l) (fun _ => Hp w0 F (pt b (.cells (put cur o cs).toArray t (0, 0)) :: m)) :=
 zh5 (val := fun _ => .int .i64 (min sLen n : Nat)) hok (fun w hw => by
  obtain ⟨i, hi, his⟩ := zbp he
  have hr := zuf (P := P) w dT sT ty e sz b o n c a sLen sCap cur.toArray t cs (zbk hT) (by rw [hi, cK, his]) (hw.get sQ) hn (hsrc w hw) h0 (by simpa using hfit) (za5.1 h1)
  refine ⟨(), _, ?_, hw.setRow _⟩
  simp only [execOp, resolve, invoke, builtin]
  simp [zau hx, zau hy, hr, goInt])
/-! ### make -/
theorem zy0 {T e : TypeId} {x y : Operand} {n b sz : Nat} {z : Value} {k1 k2 : IntKind} {i j : Int} [h : NatOf i n] [h' : NatOf j n] (hok : ze5 N l (.makeSlice T x y) d = true) (hx : evO l x = some (.int k1 i)) (hy : evO l y = some (.int k2 j))
  (hT : zks P T = some e) (hi : zo0 P e = some (sz, b, z)) (hb : (b + 1) * n ≤ 281474976710656) :
  HO P ⟨some d, .makeSlice T x y, ty, pos, after, g⟩ Q N l (Hp w0 F m) (α := { c : Nat // w0.heap.size ≤ c }) (fun c => (d, .slice (some ⟨c.1, 0, none⟩) n n) :: l) (fun c => Hp w0 F (pt c.1 (.cells (zcw z (n * sz)).toArray e (0, 0)) :: m)) := by
 obtain rfl := h.eq; obtain rfl := h'.eq
 exact zh5 (val := fun c : { b : Nat // w0.heap.size ≤ b } => .slice (some ⟨c.1, 0, none⟩) n n) hok (fun w hw => by
  obtain ⟨q, h1, h2, h3, h4⟩ := zhs hi
  have hb' : b * n + n ≤ 281474976710656 := by rwa [iH, jZ] at hb
  refine ⟨⟨w.heap.size, hw.fr.size⟩, w.alloc (.cells (zcw z (n * sz)).toArray e), ?_, hw.alloc _⟩
  have hr := run_make (P := P) w T e q z (zbk hT) h1 h4 k1 k2 n n oQ oQ (by rw [h3]; generalize hq : b * n = q at hb'; rw [← jE, hq]; omega) (by generalize b * n = q at hb'; omega)
  have hm : madeCells z.cells (n * sz) = (zcw z (n * sz)).toArray := by
   apply Array.ext'
   simp [madeCells, zcw, Array.toList_range]
  rw [h2, bT, hm] at hr
  simp only [execOp, zau hx, zau hy, Sem.run_bind, hr, Result.andThen_ok, Sem.run_pure])
/-! ### append to what is full -/
/-! ### slicing -/
theorem zzq {T e : TypeId} {x y z : Operand} {a : Option Addr} {n c sz : Nat} {k k' : IntKind} {p q : Int} {i j : Nat} [h : NatOf p i] [h' : NatOf q j] (hx : evO l x = some (.slice a n c)) (hy : evO l y = some (.int k p)) (hz : evO l z = some (.int k' q)) (hT : zks P T = some e) (he : zc3 P e = some sz) (hi : i ≤ j ∧ j ≤ c) :
  OV P (.slice T x none (some y) (some z)) ty l H (.slice a i j) := ov fun _ _ _ w _ => by
 obtain rfl := h.eq; obtain rfl := h'.eq
 have hu := zbk hT
 have hu' : P.underlying T = some (.slice (P.elem T)) := by rw [hu]; simp [Program.elem, hu]
 have he' : P.elem T = e := by simp [Program.elem, hu]
 obtain ⟨r, hq, hqs⟩ := zbp he
 have h := run_slice_hm (P := P) w T a n c hu' k k' i j oQ oQ oQ
 have hzz : (sizeOf (P.elem T)).run P w = .ok sz w := by rw [he']; simp [sizeOf, typeInfo, hq, hqs]
 simp only [execOp, zau hx, cK, eR, zau hy, zau hz, Sem.run_bind, run_sliceAt_slice w T _ _ _ _ hu', h, hzz, Result.andThen_ok, bT, sliced]
 cases a <;> simp [Sem.run_pure, Addr.add]
theorem zzr {T e : TypeId} {x : Operand} {a : Option Addr} {n c sz : Nat} (hx : evO l x = some (.slice a n c)) (hT : zks P T = some e) (he : zc3 P e = some sz) : OV P (.slice T x none none none) ty l H (.slice a n c) := ov fun _ _ _ w _ => by
 have hu := zbk hT
 have hu' : P.underlying T = some (.slice (P.elem T)) := by rw [hu]; simp [Program.elem, hu]
 have he' : P.elem T = e := by simp [Program.elem, hu]
 obtain ⟨r, hq, hqs⟩ := zbp he
 have h := run_slice_all (P := P) w T a n c hu'
 have hzz : (sizeOf (P.elem T)).run P w = .ok sz w := by rw [he']; simp [sizeOf, typeInfo, hq, hqs]
 simp only [execOp, zau hx, eR, Sem.run_bind, run_sliceAt_slice w T _ _ _ _ hu', h, hzz, Result.andThen_ok, sliced]
 cases a <;> simp [Sem.run_pure, Addr.add]
theorem zqr {T e : TypeId} {x y z : Operand} {a : Option Addr} {n c sz : Nat} {k k' : IntKind} {p q : Int} {i j : Nat} [h : NatOf p i] [h' : NatOf q j] (hx : evO l x = some (.slice a n c)) (hy : evO l y = some (.int k p)) (hz : evO l z = some (.int k' q)) (hT : zks P T = some e) (he : zc3 P e = some sz) (hi : i ≤ j ∧ j ≤ c) :
  OV P (.slice T x (some y) (some z) none) ty l H (.slice (zrc a (decide (c = i)) (i * sz)) (j - i) (c - i)) := ov fun _ _ _ w _ => by
 obtain rfl := h.eq; obtain rfl := h'.eq
 have hu := zbk hT
 have hu' : P.underlying T = some (.slice (P.elem T)) := by rw [hu]; simp [Program.elem, hu]
 have he' : P.elem T = e := by simp [Program.elem, hu]
 obtain ⟨r, hq, hqs⟩ := zbp he
 have h := run_slice_lh (P := P) w T a n c hu' k k' i j oQ oQ oQ
 have hzz : (sizeOf (P.elem T)).run P w = .ok sz w := by rw [he']; simp [sizeOf, typeInfo, hq, hqs]
 simp only [execOp, zau hx, cK, eR, zau hy, zau hz, Sem.run_bind, run_sliceAt_slice w T _ _ _ _ hu', h, hzz, Result.andThen_ok, bT, sliced, zrc]
 simp [Sem.run_pure]
/-! ### memory that is only read: ghost heaps -/
abbrev Gh := Nat → Option Obj
def Gh.In (h : Gh) (w : World) : Prop := ∀ b o, h b = some o → w.heap[b]? = some o
def Gh.join (h h' : Gh) : Gh := fun b => (h b).or (h' b)
def Gh.one (b : Nat) (o : Obj) : Gh := fun k => if k = b then some o else none
def Gh.nil : Gh := fun _ => none
def Gh.le (h h' : Gh) : Prop := ∀ b o, h b = some o → h' b = some o
def mp (h : Gh) : Item := ⟨fun k => (h k).isSome = true, fun w => h.In w⟩
theorem zdn (ro : Nat → Prop) (h : Gh) : (mp h).Stable ro := fun w w' hk hp b o hb => by
 have : (mp h).foot b := by show (h b).isSome = true; rw [hb]; rfl
 rw [hk b (.inr this)]; exact hp b o hb
theorem Gh.le_refl (h : Gh) : h.le h := fun _ _ h => h
theorem Gh.le_trans {h h' h'' : Gh} (a : h.le h') (b : h'.le h'') : h.le h'' := fun x o hx => b x o (a x o hx)
theorem Gh.In.old {h : Gh} {w : World} (h1 : h.In w0) (hF : ∀ b, (h b).isSome = true → ¬ F b) (hw : Hp w0 F m w) : h.In w := fun b o hb => by
 have h2 := h1 b o hb
 rw [hw.fr.block b (bC.1 h2).1 (hF b (by rw [hb]; rfl))]
 exact h2
theorem Gh.In.fr {h : Gh} {w w' : World} (h1 : h.In w) (hf : Fr none' w w') : h.In w' := fun b o hb => by
 have h2 := h1 b o hb
 rw [hf.block b (bC.1 h2).1 (fun h => h)]
 exact h2
theorem Gh.In.le {h h' : Gh} {w : World} (h1 : h'.In w) (hl : h.le h') : h.In w := fun b o hb => h1 b o (hl b o hb)
theorem Gh.In.cell {h : Gh} {w : World} (h1 : h.In w) {b : Nat} {cs : List Value} {E : TypeId} {fz : Nat × Nat} (hb : h b = some (.cells cs.toArray E fz)) : w.rangeAt b 0 cs := za7 (h1 b _ hb)
theorem zb3 {e : Exit} {m' : List Item} (hI : ∀ w, Hp w0 F m w → Hp w0 F m' w) (h : HX Q e N l (Hp w0 F m')) : HX Q e N l (Hp w0 F m) := by
 unfold HX at *; exact fun a w s hw => h a w s (hI w hw)
theorem zlx {c : Code} {m' : List Item} (hI : ∀ w, Hp w0 F m w → Hp w0 F m' w) (h : HT P c Q N l (Hp w0 F m')) : HT P c Q N l (Hp w0 F m) := by
 unfold HT at *; exact fun a w s hw => h a w s (hI w hw)
theorem zez {m' : List Item} (hI : ∀ w, Hp w0 F m w → Hp w0 F m' w) (h : HL P ops Q N rest l (Hp w0 F m')) : HL P ops Q N rest l (Hp w0 F m) := by
 unfold HL at *; exact fun a w s hw => h a w s (hI w hw)
/-! ### items to the front -/
theorem zg2 {α : Type} (a b c d e f : α) (l : List α) : (a :: b :: c :: d :: e :: f :: l).Perm (f :: a :: b :: c :: d :: e :: l) := (List.Perm.cons a (zg1 _ _ _ _ _ _)).trans (.swap _ _ _)
theorem zrh {α : Type} (a b c d e f g : α) (l : List α) : (a :: b :: c :: d :: e :: f :: g :: l).Perm (g :: a :: b :: c :: d :: e :: f :: l) := (List.Perm.cons a (zg2 _ _ _ _ _ _ _)).trans (.swap _ _ _)
theorem zu3 {α : Type} (a b c d e f g h : α) (l : List α) : (a :: b :: c :: d :: e :: f :: g :: h :: l).Perm (h :: a :: b :: c :: d :: e :: f :: g :: l) := (List.Perm.cons a (zrh _ _ _ _ _ _ _ _)).trans (.swap _ _ _)
/-! ### pointers -/
theorem qnm {x : Operand} {v : Addr} (hx : evO l x = some (.pointer (some v))) : OV P (.nilCheck x) ty l H (.pointer (some v)) := ov fun _ _ _ w _ => by simp only [execOp, zau hx]; rfl
/-! ### copies into a new row from its i-th element on; stores whose value is told -/
theorem qmz {cs : List Value} {off : Nat} : put cs off [] = cs := by simp [put]
theorem zgv {T : TypeId} {x y : Operand} {b off : Nat} {cs : List Value} {vs : Array Value} {V : List Value} {E : TypeId} (hok : (zhi (.store T x y) && zes l (.store T x y)) = true)
  (hx : evO l x = some (.pointer (some ⟨b, off, none⟩))) (hy : evO l y = some (.agg vs)) (hv : vs.toList = V) (hT : (P.info? T).map (·.size) = some V.length) (h1' : zbx V = true) (hs : off + V.length ≤ cs.length) :
  HO P ⟨none, .store T x y, ty, pos, after, g⟩ Q N l (Hp w0 F (pt b (.cells cs.toArray E (0, 0)) :: m)) (α := Unit) (fun _ => l) (fun _ => Hp w0 F (pt b (.cells (put cs off V).toArray E (0, 0)) :: m)) := by
 subst hv
 rw [fL] at hT hs
 exact qjl hok hx hy hT h1' hs
/-! ### two operations that turn memory, in either order -/
section
variable {S : World → Prop} {t : Nat}
theorem zs6 (i j : Nat) {oi oj : Oper} {n : Nat} {listed : Array Bool} {α β : Type} {li : α → zaq} {Hi : α → World → Prop} {lj : β → zaq} {Hj : β → World → Prop} (hr0 : Region.ready .any ops listed = [i, j] ∧ i < t ∧ j < t) (hi0 : nth ops.toList i = some oi) (hj0 : nth ops.toList j = some oj) (gi : oi.guard = none) (gj : oj.guard = none)
  (hi : HO P oi (znz Q) N l H li Hi) (hj : HO P oj (znz Q) N l H lj Hj) (hSi : ∀ x w, Hi x w → S w) (hSj : ∀ x w, Hj x w → S w)
  (ki : ∀ x, HD P ops Q S t N n (listed.setIfInBounds i true) (li x) (Hi x)) (kj : ∀ x, HD P ops Q S t N n (listed.setIfInBounds j true) (lj x) (Hj x)) : HD P ops Q S t N (n + 1) listed l H := by
 unfold HD HO at *
 intro inv a w s hw
 have hi1 := zek hi0
 have hj1 := zek hj0
 obtain ⟨hr, hlt, hlt'⟩ := hr0
 have hmi : i ∈ Region.ready .any ops listed := by rw [hr]; simp
 have hmj : j ∈ Region.ready .any ops listed := by rw [hr]; simp
 refine ⟨fun h => (by rw [hr] at h; cases h), fun k hk => ?_⟩
 rw [hr] at hk
 unfold wpOp
 rcases aJ.1 hk with rfl | hk
 ·simp only [hi1]
  rw [if_pos (by simp [Region.wanted, gi])]
  exact .inl (And.right <| hi a w s hw _ fun x a' w' s' hw' => ⟨fun _ => hSi x w' hw', ki x (inv.set hmi hlt) a' w' s' hw'⟩)
 ·obtain rfl : k = j := by simpa using hk
  simp only [hj1]
  rw [if_pos (by simp [Region.wanted, gj])]
  exact .inl (And.right <| hj a w s hw _ fun x a' w' s' hw' => ⟨fun _ => hSj x w' hw', kj x (inv.set hmj hlt') a' w' s' hw'⟩)
theorem zih {n : Nat} {listed : Array Bool} {m' : List Item} (hp : m.Perm m') (h : HD P ops Q S t N n listed l (Hp w0 F m')) : HD P ops Q S t N n listed l (Hp w0 F m) := by
 unfold HD at *; exact fun inv a w s hw => h inv a w s (hw.perm hp)
end
theorem zhl {T : TypeId} {x : Operand} {b i : Nat} {v : Value} {cs : Array Value} {E : TypeId} {fz : Nat × Nat} (hx : evO l x = some (.pointer (some ⟨b, i, none⟩))) (hT : zpi P T = true)
  (hm : pt b (.cells cs E fz) ∈ m) (hv : nth cs.toList i = some v) : OV P (.load T x) ty l (Hp w0 F m) v := zcl hx hT hm (by rw [zpc] at hv; simpa using hv)
end Go.Eng
namespace Go.Eng
open Go.RowKit
open Go.Lib (strCells strCells_length run_append_room_string run_append_grow_string run_firstCells_string)
variable {P : Program} {Q : Exit → Act → World → Prop} {N : Fm} {l : zaq} {H : World → Prop} {ops : Array Oper} {rest : List Oper} {w0 : World} {F : Nat → Prop} {m : List Item} {ty : TypeId} {pos : String} {after : Array Edge} {g : Option (Nat × Bool)} {d : Nat}
def qk7 (P : Program) (T : TypeId) : Option TypeId := match P.underlying T with | some (.pointer e) => some e | _ => none
theorem zhv {T e : TypeId} (h : qk7 P T = some e) : P.underlying T = some (.pointer e) ∧ P.underlying T = some (.pointer (P.pointee T)) := by
 unfold qk7 at h
 split at h
 ·rename_i hu; rw [hu]; cases h; exact ⟨rfl, by simp [Program.pointee, hu]⟩
 ·cases h
theorem zqn {T U e : TypeId} {x y : Operand} {p : Option Addr} (hx : evO l x = some (.pointer p)) (hy : evO l y = some (.pointer none)) (hT : qk7 P T = some e) : OV P (.binOp .eql T x y U) ty l H (.bool p.isNone) := zfm hx hy fun w => by
 show ((binOp .eql T (.pointer p) (.pointer none)).run P w) = _
 exact run_eql_pointer_nil w T p (zhv hT).2
theorem zqp {T U e : TypeId} {x y : Operand} {p : Option Addr} (hx : evO l x = some (.pointer p)) (hy : evO l y = some (.pointer none)) (hT : qk7 P T = some e) : OV P (.binOp .neq T x y U) ty l H (.bool (!p.isNone)) := zfm hx hy fun w => by
 show ((binOp .neq T (.pointer p) (.pointer none)).run P w) = _
 exact run_neq_pointer_nil w T p (zhv hT).2
theorem zqq {T U e : TypeId} {x y : Operand} {a : Addr} (hx : evO l x = some (.pointer (some a))) (hy : evO l y = some (.pointer (some a))) (hT : qk7 P T = some e) (hi : (P.info? e).isSome = true) : OV P (.binOp .neq T x y U) ty l H (.bool false) := zfm hx hy fun w => by
 show ((binOp .neq T (.pointer (some a)) (.pointer (some a))).run P w) = _
 obtain ⟨j, hj⟩ := cG.1 hi
 exact Lib.run_neq_ptr_same w a (zhv hT).1 hj
def qi1 (P : Program) (T : TypeId) : Bool := match P.underlying T with | some .unsafePointer => true | _ => false
theorem zrs {T : TypeId} (h : qi1 P T = true) : P.underlying T = some .unsafePointer := by
 unfold qi1 at h
 split at h
 ·assumption
 ·cases h
theorem qnw {T U e E : TypeId} {x : Operand} {b i : Nat} {cs : Array Value} {fz : Nat × Nat} (hx : evO l x = some (.pointer (some ⟨b, i, none⟩))) (hT : qk7 P T = some e) (hU : qi1 P U = true) (hs : Nat.ble 1 ((zc3 P e).getD 0) = true) (hm : pt b (.cells cs E fz) ∈ m) (hi : i < cs.size) : OV P (.convert T U x) ty l (Hp w0 F m) (.pointer (some ⟨b, i, none⟩)) := ov fun _ _ _ w hw => by
 have hb := hw.get hm
 cases hq : zc3 P e with
 | none => rw [hq] at hs; cases hs
 | some n =>
  obtain ⟨j, h1, h2⟩ := zbp hq
  rw [hq] at hs
  have hsh : w.shape? b = some (E, cs.size) := by simp [World.shape?, hb]
  simp only [execOp, zau hx, Sem.run_bind]
  rw [Lib.run_to_unsafe w ⟨b, i, none⟩ (zhv hT).1 (zrs hU) h1 (by have := bN hs; simp at this; omega) hsh hi]
  rfl
theorem qnp {T U e E : TypeId} {x : Operand} {b i : Nat} {cs : Array Value} {fz : Nat × Nat} (hx : evO l x = some (.pointer (some ⟨b, i, none⟩))) (hT : qk7 P T = some e) (hU : qi1 P U = true) (hs : (P.info? e).isSome = true) (hm : pt b (.cells cs E fz) ∈ m) (hl : liesAt P P.depth E (cs.size / P.cellsOf E) i e 1 = true) : OV P (.convert U T x) ty l (Hp w0 F m) (.pointer (some ⟨b, i, none⟩)) := ov fun _ _ _ w hw => by
 have hb := hw.get hm
 obtain ⟨j, hj⟩ := cG.1 hs
 have hsh : w.shape? b = some (E, cs.size) := by simp [World.shape?, hb]
 simp only [execOp, zau hx, Sem.run_bind]
 rw [Lib.run_from_unsafe w ⟨b, i, none⟩ (zrs hU) (zhv hT).1 hj hsh hl]
 rfl
def zaf (s : List UInt8) : List Value := s.map fun b => Value.int .u8 b.toNat
theorem zp8 (s : ByteArray) : strCells s = zaf s.data.toList := by
 simp [strCells, zaf]
theorem qed {t u ty' e : TypeId} {i : TypeInfo} (ht : P.underlying t = some (.slice e)) (hu : P.underlying u = some .string) (hi : P.info? e = some i) (hz : i.zero = some (.int .u8 0)) (hs1 : i.size = 1) (hby : i.bytes = 1)
  {w : World} {o : Option (Nat × Nat)} {n : Nat} {xs : List Value} (hown : (own e 1 o n xs).prop w) (s : ByteArray) (h63 : n + s.size ≤ 140737488355328) :
  ∃ o' w', (Builtin.append_ #[t, u] ty' #[slV o n, .string s]).run P w = .ok (slV o' (n + s.size)) w' ∧ Its (fun k => ∃ c, o = some (k, c)) w [own e 1 o' (n + s.size) (xs ++ strCells s)] w' := by
 have hrow := zt4 hown
 have hxl : xs.length = n := by simpa using hrow.1
 have hlen : (xs ++ strCells s).length = (n + s.size) * 1 := by rw [aA, hxl, strCells_length, bK]
 have hmx : n + s.size ≤ maxLen := by unfold maxLen; omega
 have grown : ∀ (old : Nat), old < n + s.size →
   Its (fun k => ∃ c, o = some (k, c)) w [own e 1 (some (w.heap.size, grownCap w (n + s.size) old e)) (n + s.size) (xs ++ strCells s)] (w.drew.alloc (.cells (xs.toArray ++ (strCells s).toArray ++ Builtin.zeroCells (Value.int .u8 0).cells (grownCap w (n + s.size) old e - (n + s.size))) e)) := by
  intro old ho
  have hge := grownCap_ge w (n + s.size) old e
  refine zki ⟨hlen, hge, grownCap_le_maxLen w (n + s.size) old e hmx, _, heap_alloc_new w.drew _, ?_, ?_⟩ (zkg rfl rfl rfl sQ fun j hj _ => Below.heap_alloc w.drew _ j hj) (fun b c' h => .inl (by cases h; exact aX _))
  ·have hz1 : (Value.int IntKind.u8 0).cells.size = 1 := rfl
   simp only [jU, bR, size_zeroCells, hz1, hxl, strCells_length]
   omega
  ·simp only [gC, aH]
   rw [← aH, ← hlen]
   exact fS
 match o, hown with
 | none, hown =>
  obtain rfl : n = 0 := hown.2
  obtain rfl : xs = [] := bM hxl
  by_cases hm : s.size = 0
  ·have hn : strCells s = [] := bM (by rw [strCells_length]; exact hm)
   refine ⟨none, w, ?_, ?_⟩
   ·have hf := run_firstCells_string (P := P) w 1 s
    rw [hm] at hf
    simp [Builtin.append_, run_underlying ht, run_underlying hu, sizeOf, typeInfo, hi, hs1, Builtin.lenOf, hm, hf, slV]
   ·rw [hn, hm]
    exact zki (o := none) hown (.refl _ _) (fun _ _ h => by cases h)
  ·have hr := run_append_nil_string (P := P) w t u ty' e i (.int .u8 0) ht hu hi hz s oQ oQ (by rw [hby]; omega)
   have hgr := grown 0 oQ
   simp only [aF, aI, Array.empty_append] at hgr ⊢
   have e1 : (s.data.map fun b => Value.int .u8 b.toNat) = (strCells s).toArray := by
    apply Array.ext'
    simp [strCells]
   rw [e1] at hr
   exact ⟨some (w.heap.size, grownCap w s.size 0 e), _, hr, hgr⟩
 | some (b, cap), hown =>
  obtain ⟨h2, h3, cur, h4, h5, h6⟩ := hown.2
  rw [bK] at h5 h6
  by_cases hroom : n + s.size ≤ cap
  ·have hr := run_append_room_string (P := P) w t u ty' e i ht hu hi hs1 b n cap cur h4 s hroom oQ
   refine ⟨some (b, cap), _, hr, zki ⟨hlen, hroom, h3, _, setRow_heap w b cur _ e _ h4, ?_, ?_⟩ (zkg rfl rfl rfl sQ fun j _ hj => setRow_other w b j _ (fun e => hj ⟨cap, by rw [e]⟩)) (fun b' c' h => .inr ⟨c', h⟩)⟩
   ·simp only [bR, aA, aO, aU, fL, strCells_length]
    omega
   ·rw [h6, ← hlen]
    exact fS
  ·have hr := run_append_grow_string (P := P) w t u ty' e i (.int .u8 0) ht hu hi hz ⟨b, 0, none⟩ n cap xs (by rw [hs1]; simpa using hxl) (hrow.cells (g := b) rfl) s oQ oQ (by rw [hby]; exact growslice_fits oQ oQ)
   exact ⟨some (w.heap.size, grownCap w (n + s.size) cap e), _, hr, grown cap oQ⟩
def qih (P : Program) (e : TypeId) : Bool := match P.info? e with | some ⟨_, _, sz, bt, _, _, _, some (.int .u8 0), _, _⟩ => Nat.beq sz 1 && Nat.beq bt 1 | _ => false
theorem zri {e : TypeId} (h : qih P e = true) : ∃ i, P.info? e = some i ∧ i.zero = some (.int .u8 0) ∧ i.size = 1 ∧ i.bytes = 1 := by
 unfold qih at h
 split at h
 ·rename_i hi
  simp only [bH] at h
  exact ⟨_, hi, rfl, fU h.1, fU h.2⟩
 ·cases h
theorem qao {T U T' e : TypeId} {x y : Operand} {o : Option (Nat × Nat)} {n : Nat} {xs : List Value} {s : ByteArray} (hok : ze5 N l (.call ⟨.builtin .append, #[x, y], #[T, U]⟩) d = true) (hx : evO l x = some (slV o n)) (hy : evO l y = some (.string s))
  (hT : zks P T = some e) (hU : P.underlying U = some .string) (he : qih P e = true) (hn : n + s.size ≤ 140737488355328) :
  HO P ⟨some d, .call ⟨.builtin .append, #[x, y], #[T, U]⟩, T', pos, after, g⟩ Q N l (Hp w0 F (own e 1 o n xs :: m)) (α := Option (Nat × Nat)) (fun o' => (d, slV o' (n + s.size)) :: l) (fun o' => Hp w0 F (own e 1 o' (n + s.size) (xs ++ zaf s.data.toList) :: m)) :=
 zh5 (val := fun o' => slV o' (n + s.size)) hok (fun w hw => by
  obtain ⟨i, h1, h2, h3, h4⟩ := zri he
  obtain ⟨o', w', hr, hits⟩ := qed (P := P) (ty' := T') (zbk hT) hU h1 h2 h3 h4 (hw.item (own e 1 o n xs) sQ).1 s hn
  rw [zp8] at hits
  refine ⟨o', w', ?_, Hp.call (m := [own e 1 o n xs]) hw hits (fun k' _ hk => ⟨own e 1 o n xs, by simp, hk⟩)⟩
  simp only [execOp, resolve, invoke, builtin]
  simp [zau hx, zau hy, hr])
theorem qrj {f : FuncId} {fn : Func} {t e : TypeId} {x : Operand} {tys : Array TypeId} {k : Int} {n : Nat} [h : NatOf k n] (hok : ze5 N l (.call ⟨.value (.func f), #[x], tys⟩) d = true) (hf : P.funcs[f]? = some fn) (hname : (fn.name == "runtime.NumGoroutine") = false) (hb : fn.body.isNone = true) (hne : Extern.findNext fn = none)
  (he : Extern.find fn = some (Extern.BytealgMakeNoZero.makeNoZero fn.params fn.resultTypes)) (hr : fn.resultTypes = #[t]) (hT : zks P t = some e) (hx : evO l x = some (.int .i64 k)) (hn : n ≤ 281474976710656) :
  HO P ⟨some d, .call ⟨.value (.func f), #[x], tys⟩, ty, pos, after, g⟩ Q N l (Hp w0 F m) (α := { p : Nat × Array Value // n ≤ p.2.size ∧ p.2.size ≤ maxLen }) (fun p => (d, .slice (some ⟨p.1.1, 0, none⟩) n p.1.2.size) :: l) (fun p => Hp w0 F (pt p.1.1 (.cells p.1.2 e (0, 0)) :: m)) := by
 obtain rfl := h.eq
 exact zh5 (val := fun p : { p : Nat × Array Value // n ≤ p.2.size ∧ p.2.size ≤ maxLen } => .slice (some ⟨p.1.1, 0, none⟩) n p.1.2.size) hok (fun w hw => by
  obtain ⟨cs, h1, h2, h3⟩ := Lib.run_makeNoZero (P := P) w fn.params t e (zbk hT) n hn
  refine ⟨⟨(w.heap.size, cs), h2, h3 (by unfold maxLen; omega)⟩, _, ?_, hw.drew.drew.alloc (.cells cs e)⟩
  have hcall : (callFunc f #[.int .i64 (n : Int)]).run P w = .ok (.value (.slice (some ⟨w.heap.size, 0, none⟩) n cs.size)) (w.drew.drew.alloc (.cells cs e)) := by
   rw [run_callFunc_extern hf hname hb hne he, hr, h1]; rfl
  simp only [execOp, resolve, Deferred.ofValue, ev]
  simp [zau hx, invoke, hcall])
theorem qr0 {T : Array TypeId} {x : Operand} {b c n : Nat} (hx : evO l x = some (.slice (some ⟨b, 0, none⟩) n c)) (hc : c ≠ 0) : OV P (.call ⟨.builtin .unsafeSliceData, #[x], T⟩) ty l H (.pointer (some ⟨b, 0, none⟩)) := ov fun _ _ _ w _ => by
 have h := Lib.run_unsafeSliceData_row (P := P) w T ty ⟨b, 0, none⟩ n c hc
 simp only [execOp, resolve, invoke, builtin]
 simp [zau hx, h]
theorem zvn {w : World} {b k n : Nat} (h : k ≠ b) : (w.freeze ⟨b, 0, none⟩ n).heap[k]? = w.heap[k]? := by
 unfold World.freeze
 split
 ·rfl
 ·simp [gO, Ne.symm h]
theorem zx5 {w : World} {b n : Nat} : (w.freeze ⟨b, 0, none⟩ n).heap.size = w.heap.size := by
 unfold World.freeze
 split <;> simp
theorem zx3 {w : World} {b n : Nat} : (w.freeze ⟨b, 0, none⟩ n).os = w.os ∧ (w.freeze ⟨b, 0, none⟩ n).tape = w.tape ∧ (w.freeze ⟨b, 0, none⟩ n).output = w.output := by
 unfold World.freeze
 split <;> exact ⟨rfl, rfl, rfl⟩
/-! ### ends of functions without results -/
theorem zl6 {n : Nat} {fn : Func} {α : Type} {val : α → Value} {φ : α → Prop} {its : α → List Item} (x : α) (hf : fn.results = #[]) (e : .tuple #[] = val x) (hφ : φ x) (hs : (its x).Sublist m) (hst : ∀ it ∈ its x, it.Stable none') : HX (bodyPost P fn (zk5 w0 F val φ its)) .normal ⟨n, [], none⟩ l (Hp w0 F m) :=
 qb0 hf fun _ hw => ⟨x, by rw [e], hφ, hw.its hs hst⟩
theorem zqm {x : Operand} {T : TypeId} {a : Option Addr} {n c : Nat} (hx : evO l x = some (.slice a n c)) (hT : (zks P T).isSome = true) : OV P (.call ⟨.builtin .cap, #[x], #[T]⟩) ty l H (.int .i64 c) := ov fun _ _ _ w _ => by
 obtain ⟨e, he⟩ := cG.1 hT
 simp [execOp, resolve, invoke, builtin, zau hx, Builtin.cap_, run_underlying (zbk he) w, goInt]
theorem qm8 {id : Nat} {r : List Oper} {it : Item} (hm : zk7 P r = true) (h : HD P r.toArray Q (Hp w0 F m) r.length N r.length (Array.replicate r.length false) l (Hp w0 F (it :: m))) : HT P (.region id r.toArray true) Q N l (Hp w0 F (it :: m)) := by
 unfold HT HD at *
 intro a w s hw
 simp only [zk7, bH, eI] at hm
 refine wpIn_mono (wpIn_region_any (Q := znz Q) hm.1 (zz1 (by simpa using hm.2) zs3 N.r _ _ _ _ (zj1 (S := Hp w0 F m) (t := r.length) _ _ _ _ ?_))) (fun _ _ _ h => zs1 h)
 have := h (by simpa using zh0 r.toArray r.length) a w.drew s hw.drew
 simpa using this
end Go.Eng
namespace Go.Eng
open Go.RowKit
variable {P : Program} {Q : Exit → Act → World → Prop} {N : Fm} {l : zaq} {H S : World → Prop} {ops : Array Oper} {rest : List Oper} {ty : TypeId} {pos : String} {after : Array Edge} {g : Option (Nat × Bool)} {d t : Nat}
theorem qru {P : Program} {l : zaq} {H : World → Prop} {ty S T : TypeId} {x : Operand} {c : UInt8} (hx : evO l x = some (.int .u8 (c.toNat : Int))) (hS : (P.underlying S).isSome = true) (hT : qo4 P T = some .u32) : OV P (.convert S T x) ty l H (w32 (BitVec.ofNat 32 c.toNat)) :=
 zsv (qh4 (n := c.toNat) hx hS hT (by have := c.toNat_lt; omega)) (by rw [show w32 (BitVec.ofNat 32 c.toNat) = .int .u32 ((BitVec.ofNat 32 c.toNat).toNat : Int) from rfl, bS, aY (by have := c.toNat_lt; omega)])
theorem dAv {i : Nat} (E : List Nat) {n : Nat} {listed : Array Bool} {op : Op} {v : Value} (hp : qgo ops.toList listed.toList E l 0 ops.toList = some i) (hi : nth ops.toList i = some ⟨some d, op, ty, pos, after, g⟩) (hok : okL ops N l g op d = true) (k : HD P ops Q S t N n (listed.setIfInBounds i true) ((d, v) :: l) H)
  (hb : zp7 ops t listed i = true := by kernel_rfl) (hS : ∀ w, H w → S w := by intro w h; first | exact h | exact Hp.sub h (.cons _ (.refl _)) | exact Hp.sub h (.cons _ (.cons _ (.refl _))) | exact Hp.sub h (.cons _ (.cons _ (.cons _ (.refl _)))) | exact Hp.sub h (.cons _ (.cons _ (.cons _ (.cons _ (.refl _))))) | exact Hp.sub h (.cons _ (.cons _ (.cons _ (.cons _ (.cons _ (.refl _)))))) | exact Hp.sub h (.cons _ (.cons _ (.cons _ (.cons _ (.cons _ (.cons _ (.refl _))))))) | exact Hp.sub h (.cons_cons _ (.cons_cons _ (aD _))) | exact Hp.sub h (.cons _ (.cons_cons _ (.cons_cons _ (aD _))))) (hv : OV P op ty l S v := by first | exact zdu rfl | exact zcb rfl | exact qbj rfl rfl | exact zc6 rfl rfl | exact zct rfl rfl | exact zem rfl rfl | exact zhb rfl rfl | exact zds rfl rfl | exact qbp rfl | exact zdt rfl rfl (by repeat first | exact .head _ | apply List.Mem.tail) | exact zhl rfl rfl (by repeat first | exact .head _ | apply List.Mem.tail) rfl | exact zcl rfl rfl (by repeat first | exact .head _ | apply List.Mem.tail) rfl | exact zdk rfl rfl (by repeat first | exact .head _ | apply List.Mem.tail) | exact zl0 rfl rfl rfl | exact zzr rfl rfl rfl | exact zha rfl rfl rfl rfl rfl | exact zw2 rfl rfl | exact qnm rfl | exact zqm rfl rfl | exact zqn rfl rfl rfl | exact zqp rfl rfl rfl | exact zqq rfl rfl rfl rfl | ((first | refine zzo rfl rfl ?_ | refine zj5 rfl rfl rfl ?_ | refine zl1 rfl rfl rfl ?_ | refine qbu rfl rfl rfl ?_ | refine qbs rfl rfl rfl ?_ | refine qbt rfl rfl rfl ?_ | refine zl2 rfl rfl rfl rfl ?_ | refine qbo rfl rfl rfl rfl ?_ | refine qbn rfl rfl rfl ?_ | refine qbm rfl rfl rfl ?_ | refine qnk rfl rfl rfl rfl ?_ | refine qh4 rfl rfl rfl ?_ | refine zqr rfl rfl rfl rfl rfl ?_ | refine zzq rfl rfl rfl rfl rfl ?_); first | omega | assumption) | exact qbr rfl rfl (by first | omega | assumption | (simp; done) | exact fun h => h aQ | fail) | exact qbq rfl rfl (by first | omega | assumption | (simp; done) | exact fun h => h aQ | fail) | exact ze3 rfl rfl rfl) : HD P ops Q S t N (n + 1) listed l H := d_w E hp hi hok hb hS hv k
theorem dno {i : Nat} (E : List Nat) {n : Nat} {listed : Array Bool} {op : Op} {g : Nat × Bool} (hp : qgo ops.toList listed.toList E l 0 ops.toList = some i) (hi : nth ops.toList i = some ⟨some d, op, ty, pos, after, some g⟩) (hok : okP ops N l g d = true) (k : HD P ops Q S t N n (listed.setIfInBounds i true) ((d, undef) :: l) H)
  (hb : zp7 ops t listed i = true := by kernel_rfl) (hS : ∀ w, H w → S w := by intro w h; first | exact h | exact Hp.sub h (.cons _ (.refl _)) | exact Hp.sub h (.cons _ (.cons _ (.refl _))) | exact Hp.sub h (.cons _ (.cons _ (.cons _ (.refl _)))) | exact Hp.sub h (.cons _ (.cons _ (.cons _ (.cons _ (.refl _))))) | exact Hp.sub h (.cons _ (.cons _ (.cons _ (.cons _ (.cons _ (.refl _)))))) | exact Hp.sub h (.cons _ (.cons _ (.cons _ (.cons _ (.cons _ (.cons _ (.refl _))))))) | exact Hp.sub h (.cons_cons _ (.cons_cons _ (aD _))) | exact Hp.sub h (.cons _ (.cons_cons _ (.cons_cons _ (aD _))))) : HD P ops Q S t N (n + 1) listed l H := qh2 E hp hi hok hb hS k
theorem dT {b : Bool} {p : Prop} [h : DeciN b p] {i n : Nat} {dst : Option Nat} {listed : Array Bool} {op : Op} {g : Nat × Bool} (E : List Nat) (h1 : pick ops listed E = some i) (hi : nth ops.toList i = some ⟨dst, op, ty, pos, after, some g⟩) (hd : (nth ops.toList g.1).bind (·.dst) = some d) (hg : get l d = some (.bool b)) (k : HD P ops Q S t N n listed ((d, .bool true) :: l) H) (hp : p := by first | omega | assumption | (simp; done) | exact fun h => h aQ | fail) : HD P ops Q S t N n listed l H := d_T E h1 hi hd hg hp k
theorem dF {b : Bool} {p : Prop} [h : DeciN b p] {i n : Nat} {dst : Option Nat} {listed : Array Bool} {op : Op} {g : Nat × Bool} (E : List Nat) (h1 : pick ops listed E = some i) (hi : nth ops.toList i = some ⟨dst, op, ty, pos, after, some g⟩) (hd : (nth ops.toList g.1).bind (·.dst) = some d) (hg : get l d = some (.bool b)) (k : HD P ops Q S t N n listed ((d, .bool false) :: l) H) (hp : ¬ p := by first | omega | assumption | (simp; done) | exact fun h => h aQ | fail) : HD P ops Q S t N n listed l H := d_F E h1 hi hd hg hp k
structure Kp (q : Prop) : Prop where h : q
theorem goA {p q : Prop} (k : q) (s : Kp q → p := by intro h; (repeat first | with_reducible (first | apply zi7 | apply zeg | apply zuj | apply qj3 | apply qbe | apply qbc | apply zkj | apply zf9 | apply zig | apply zj2 | apply zif | apply zfu | apply zhe | apply zie rfl) | (apply l_w rfl; focus (first | exact zdu rfl | exact zcb rfl | exact qbj rfl rfl | exact zc6 rfl rfl | exact zct rfl rfl | exact zem rfl rfl | exact zhb rfl rfl | exact zds rfl rfl | exact qbp rfl | exact zdt rfl rfl (by repeat first | exact .head _ | apply List.Mem.tail) | exact zhl rfl rfl (by repeat first | exact .head _ | apply List.Mem.tail) rfl | exact zcl rfl rfl (by repeat first | exact .head _ | apply List.Mem.tail) rfl | exact zdk rfl rfl (by repeat first | exact .head _ | apply List.Mem.tail) | exact zl0 rfl rfl rfl | exact zzr rfl rfl rfl | exact zha rfl rfl rfl rfl rfl | exact zw2 rfl rfl | exact qnm rfl | exact zqm rfl rfl | exact zqn rfl rfl rfl | exact zqp rfl rfl rfl | exact zqq rfl rfl rfl rfl | ((first | refine zzo rfl rfl ?_ | refine zj5 rfl rfl rfl ?_ | refine zl1 rfl rfl rfl ?_ | refine qbu rfl rfl rfl ?_ | refine qbs rfl rfl rfl ?_ | refine qbt rfl rfl rfl ?_ | refine zl2 rfl rfl rfl rfl ?_ | refine qbo rfl rfl rfl rfl ?_ | refine qbn rfl rfl rfl ?_ | refine qbm rfl rfl rfl ?_ | refine qnk rfl rfl rfl rfl ?_ | refine qh4 rfl rfl rfl ?_ | refine zqr rfl rfl rfl rfl rfl ?_ | refine zzq rfl rfl rfl rfl rfl ?_); first | omega | assumption) | exact qbr rfl rfl (by first | omega | assumption | (simp; done) | exact fun h => h aQ | fail) | exact qbq rfl rfl (by first | omega | assumption | (simp; done) | exact fun h => h aQ | fail) | exact ze3 rfl rfl rfl)) | refine qqr rfl ?_ | refine t_T rfl rfl (by first | omega | assumption | (simp; done) | exact fun h => h aQ | fail) ?_ | refine t_F rfl rfl (by first | omega | assumption | (simp; done) | exact fun h => h aQ | fail) ?_ | refine l_T rfl rfl (by first | omega | assumption | (simp; done) | exact fun h => h aQ | fail) ?_ | refine l_F rfl rfl (by first | omega | assumption | (simp; done) | exact fun h => h aQ | fail) ?_); exact h.h) : p := s ⟨k⟩
theorem goW {p q : Prop} (k : q) (s : Kp q → p := by intro h; (repeat first | with_reducible (first | apply zi7 | apply zeg | apply zuj | apply qj3 | apply qbe | apply qbc | apply zkj | apply zf9 | apply zig | apply zj2 | apply zif | apply zfu | apply zhe | apply zie rfl) | (apply l_w rfl; focus (first | exact qqi rfl rfl | exact qni rfl rfl dQ | exact qld rfl rfl | exact qrz rfl rfl | exact qj9 rfl rfl | exact qqd rfl | exact qnt rfl rfl dQ | exact qns rfl rfl dQ | exact qli rfl rfl oQ | exact qlh rfl rfl oQ | exact qru rfl rfl rfl | exact zdu rfl | exact zcb rfl | exact qbj rfl rfl | exact zc6 rfl rfl | exact zct rfl rfl | exact zem rfl rfl | exact zhb rfl rfl | exact zds rfl rfl | exact qbp rfl | exact zdt rfl rfl (by repeat first | exact .head _ | apply List.Mem.tail) | exact zhl rfl rfl (by repeat first | exact .head _ | apply List.Mem.tail) rfl | exact zcl rfl rfl (by repeat first | exact .head _ | apply List.Mem.tail) rfl | exact zdk rfl rfl (by repeat first | exact .head _ | apply List.Mem.tail) | exact zl0 rfl rfl rfl | exact zzr rfl rfl rfl | exact zha rfl rfl rfl rfl rfl | exact zw2 rfl rfl | exact qnm rfl | exact zqm rfl rfl | exact zqn rfl rfl rfl | exact zqp rfl rfl rfl | exact zqq rfl rfl rfl rfl | ((first | refine zzo rfl rfl ?_ | refine zj5 rfl rfl rfl ?_ | refine zl1 rfl rfl rfl ?_ | refine qbu rfl rfl rfl ?_ | refine qbs rfl rfl rfl ?_ | refine qbt rfl rfl rfl ?_ | refine zl2 rfl rfl rfl rfl ?_ | refine qbo rfl rfl rfl rfl ?_ | refine qbn rfl rfl rfl ?_ | refine qbm rfl rfl rfl ?_ | refine qnk rfl rfl rfl rfl ?_ | refine qh4 rfl rfl rfl ?_ | refine zqr rfl rfl rfl rfl rfl ?_ | refine zzq rfl rfl rfl rfl rfl ?_); first | omega | assumption) | exact qbr rfl rfl (by first | omega | assumption | (simp; done) | exact fun h => h aQ | fail) | exact qbq rfl rfl (by first | omega | assumption | (simp; done) | exact fun h => h aQ | fail) | exact ze3 rfl rfl rfl)) | refine qqr rfl ?_ | refine t_T rfl rfl (by first | omega | assumption | (simp; done) | exact fun h => h aQ | fail) ?_ | refine t_F rfl rfl (by first | omega | assumption | (simp; done) | exact fun h => h aQ | fail) ?_ | refine l_T rfl rfl (by first | omega | assumption | (simp; done) | exact fun h => h aQ | fail) ?_ | refine l_F rfl rfl (by first | omega | assumption | (simp; done) | exact fun h => h aQ | fail) ?_); exact h.h) : p := s ⟨k⟩
theorem goE {p q : Prop} (k : q) (s : Kp q → p := by intro h; (repeat first | (apply d_w [] rfl rfl rfl kQ (fun _ h => by first | exact h | exact Hp.sub h (.cons _ (.refl _)) | exact Hp.sub h (.cons _ (.cons _ (.refl _))) | exact Hp.sub h (.cons _ (.cons _ (.cons _ (.refl _)))) | exact Hp.sub h (.cons _ (.cons _ (.cons _ (.cons _ (.refl _))))) | exact Hp.sub h (.cons _ (.cons _ (.cons _ (.cons _ (.cons _ (.refl _)))))) | exact Hp.sub h (.cons _ (.cons _ (.cons _ (.cons _ (.cons _ (.cons _ (.refl _))))))) | exact Hp.sub h (.cons_cons _ (.cons_cons _ (aD _))) | exact Hp.sub h (.cons _ (.cons_cons _ (.cons_cons _ (aD _))))); focus (first | exact zdu rfl | exact zcb rfl | exact qbj rfl rfl | exact zc6 rfl rfl | exact zct rfl rfl | exact zem rfl rfl | exact zhb rfl rfl | exact zds rfl rfl | exact qbp rfl | exact zdt rfl rfl (by repeat first | exact .head _ | apply List.Mem.tail) | exact zhl rfl rfl (by repeat first | exact .head _ | apply List.Mem.tail) rfl | exact zcl rfl rfl (by repeat first | exact .head _ | apply List.Mem.tail) rfl | exact zdk rfl rfl (by repeat first | exact .head _ | apply List.Mem.tail) | exact zl0 rfl rfl rfl | exact zzr rfl rfl rfl | exact zha rfl rfl rfl rfl rfl | exact zw2 rfl rfl | exact qnm rfl | exact zqm rfl rfl | exact zqn rfl rfl rfl | exact zqp rfl rfl rfl | exact zqq rfl rfl rfl rfl | ((first | refine zzo rfl rfl ?_ | refine zj5 rfl rfl rfl ?_ | refine zl1 rfl rfl rfl ?_ | refine qbu rfl rfl rfl ?_ | refine qbs rfl rfl rfl ?_ | refine qbt rfl rfl rfl ?_ | refine zl2 rfl rfl rfl rfl ?_ | refine qbo rfl rfl rfl rfl ?_ | refine qbn rfl rfl rfl ?_ | refine qbm rfl rfl rfl ?_ | refine qnk rfl rfl rfl rfl ?_ | refine qh4 rfl rfl rfl ?_ | refine zqr rfl rfl rfl rfl rfl ?_ | refine zzq rfl rfl rfl rfl rfl ?_); first | omega | assumption) | exact qbr rfl rfl (by first | omega | assumption | (simp; done) | exact fun h => h aQ | fail) | exact qbq rfl rfl (by first | omega | assumption | (simp; done) | exact fun h => h aQ | fail) | exact ze3 rfl rfl rfl)) | refine qh2 [] rfl rfl rfl kQ (fun _ h => by first | exact h | exact Hp.sub h (.cons _ (.refl _)) | exact Hp.sub h (.cons _ (.cons _ (.refl _))) | exact Hp.sub h (.cons _ (.cons _ (.cons _ (.refl _)))) | exact Hp.sub h (.cons _ (.cons _ (.cons _ (.cons _ (.refl _))))) | exact Hp.sub h (.cons _ (.cons _ (.cons _ (.cons _ (.cons _ (.refl _)))))) | exact Hp.sub h (.cons _ (.cons _ (.cons _ (.cons _ (.cons _ (.cons _ (.refl _))))))) | exact Hp.sub h (.cons_cons _ (.cons_cons _ (aD _))) | exact Hp.sub h (.cons _ (.cons_cons _ (.cons_cons _ (aD _))))) ?_ | refine d_T [] rfl rfl rfl rfl (by first | omega | assumption | (simp; done) | exact fun h => h aQ | fail) ?_ | refine d_F [] rfl rfl rfl rfl (by first | omega | assumption | (simp; done) | exact fun h => h aQ | fail) ?_); exact h.h) : p := s ⟨k⟩
theorem goH {w0 w : World} {F : Nat → Prop} {m m' : List Item} (h : Hp w0 F m w) (s : Hp w0 F m w → Hp w0 F m' w := by intro h; first | exact h | exact Hp.sub h (.cons _ (.refl _)) | exact Hp.sub h (.cons _ (.cons _ (.refl _))) | exact Hp.sub h (.cons _ (.cons _ (.cons _ (.refl _)))) | exact Hp.sub h (.cons _ (.cons _ (.cons _ (.cons _ (.refl _))))) | exact Hp.sub h (.cons _ (.cons _ (.cons _ (.cons _ (.cons _ (.refl _)))))) | exact Hp.sub h (.cons _ (.cons _ (.cons _ (.cons _ (.cons _ (.cons _ (.refl _))))))) | exact Hp.sub h (.cons_cons _ (.cons_cons _ (aD _))) | exact Hp.sub h (.cons _ (.cons_cons _ (.cons_cons _ (aD _))))) : Hp w0 F m' w := s h
theorem goX {p q : Prop} (k : q) (s : Kp q → p := by intro h; (repeat first | (apply d_w [] rfl rfl rfl kQ (fun _ h => by first | exact h | exact Hp.sub h (.cons _ (.refl _)) | exact Hp.sub h (.cons _ (.cons _ (.refl _))) | exact Hp.sub h (.cons _ (.cons _ (.cons _ (.refl _)))) | exact Hp.sub h (.cons _ (.cons _ (.cons _ (.cons _ (.refl _))))) | exact Hp.sub h (.cons _ (.cons _ (.cons _ (.cons _ (.cons _ (.refl _)))))) | exact Hp.sub h (.cons _ (.cons _ (.cons _ (.cons _ (.cons _ (.cons _ (.refl _))))))) | exact Hp.sub h (.cons_cons _ (.cons_cons _ (aD _))) | exact Hp.sub h (.cons _ (.cons_cons _ (.cons_cons _ (aD _))))); focus (first | exact zdu rfl | exact zcb rfl | exact qbj rfl rfl | exact zc6 rfl rfl | exact zct rfl rfl | exact zem rfl rfl | exact zhb rfl rfl | exact zds rfl rfl | exact qbp rfl | exact zdt rfl rfl (by repeat first | exact .head _ | apply List.Mem.tail) | exact zhl rfl rfl (by repeat first | exact .head _ | apply List.Mem.tail) rfl | exact zcl rfl rfl (by repeat first | exact .head _ | apply List.Mem.tail) rfl | exact zdk rfl rfl (by repeat first | exact .head _ | apply List.Mem.tail) | exact zl0 rfl rfl rfl | exact zzr rfl rfl rfl | exact zha rfl rfl rfl rfl rfl | exact zw2 rfl rfl | exact qnm rfl | exact zqm rfl rfl | exact zqn rfl rfl rfl | exact zqp rfl rfl rfl | exact zqq rfl rfl rfl rfl | ((first | refine zzo rfl rfl ?_ | refine zj5 rfl rfl rfl ?_ | refine zl1 rfl rfl rfl ?_ | refine qbu rfl rfl rfl ?_ | refine qbs rfl rfl rfl ?_ | refine qbt rfl rfl rfl ?_ | refine zl2 rfl rfl rfl rfl ?_ | refine qbo rfl rfl rfl rfl ?_ | refine qbn rfl rfl rfl ?_ | refine qbm rfl rfl rfl ?_ | refine qnk rfl rfl rfl rfl ?_ | refine qh4 rfl rfl rfl ?_ | refine zqr rfl rfl rfl rfl rfl ?_ | refine zzq rfl rfl rfl rfl rfl ?_); first | omega | assumption) | exact qbr rfl rfl (by first | omega | assumption | (simp; done) | exact fun h => h aQ | fail) | exact qbq rfl rfl (by first | omega | assumption | (simp; done) | exact fun h => h aQ | fail) | exact ze3 rfl rfl rfl)) | refine qh2 [] rfl rfl rfl kQ (fun _ h => by first | exact h | exact Hp.sub h (.cons _ (.refl _)) | exact Hp.sub h (.cons _ (.cons _ (.refl _))) | exact Hp.sub h (.cons _ (.cons _ (.cons _ (.refl _)))) | exact Hp.sub h (.cons _ (.cons _ (.cons _ (.cons _ (.refl _))))) | exact Hp.sub h (.cons _ (.cons _ (.cons _ (.cons _ (.cons _ (.refl _)))))) | exact Hp.sub h (.cons _ (.cons _ (.cons _ (.cons _ (.cons _ (.cons _ (.refl _))))))) | exact Hp.sub h (.cons_cons _ (.cons_cons _ (aD _))) | exact Hp.sub h (.cons _ (.cons_cons _ (.cons_cons _ (aD _))))) ?_ | refine d_T [] rfl rfl rfl rfl (by first | omega | assumption | (simp; done) | exact fun h => h aQ | fail) ?_ | refine d_F [] rfl rfl rfl rfl (by first | omega | assumption | (simp; done) | exact fun h => h aQ | fail) ?_); refine zei kQ ?_; (repeat first | with_reducible (first | apply zi7 | apply zeg | apply zuj | apply qj3 | apply qbe | apply qbc | apply zkj | apply zf9 | apply zig | apply zj2 | apply zif | apply zfu | apply zhe | apply zie rfl) | (apply l_w rfl; focus (first | exact zdu rfl | exact zcb rfl | exact qbj rfl rfl | exact zc6 rfl rfl | exact zct rfl rfl | exact zem rfl rfl | exact zhb rfl rfl | exact zds rfl rfl | exact qbp rfl | exact zdt rfl rfl (by repeat first | exact .head _ | apply List.Mem.tail) | exact zhl rfl rfl (by repeat first | exact .head _ | apply List.Mem.tail) rfl | exact zcl rfl rfl (by repeat first | exact .head _ | apply List.Mem.tail) rfl | exact zdk rfl rfl (by repeat first | exact .head _ | apply List.Mem.tail) | exact zl0 rfl rfl rfl | exact zzr rfl rfl rfl | exact zha rfl rfl rfl rfl rfl | exact zw2 rfl rfl | exact qnm rfl | exact zqm rfl rfl | exact zqn rfl rfl rfl | exact zqp rfl rfl rfl | exact zqq rfl rfl rfl rfl | ((first | refine zzo rfl rfl ?_ | refine zj5 rfl rfl rfl ?_ | refine zl1 rfl rfl rfl ?_ | refine qbu rfl rfl rfl ?_ | refine qbs rfl rfl rfl ?_ | refine qbt rfl rfl rfl ?_ | refine zl2 rfl rfl rfl rfl ?_ | refine qbo rfl rfl rfl rfl ?_ | refine qbn rfl rfl rfl ?_ | refine qbm rfl rfl rfl ?_ | refine qnk rfl rfl rfl rfl ?_ | refine qh4 rfl rfl rfl ?_ | refine zqr rfl rfl rfl rfl rfl ?_ | refine zzq rfl rfl rfl rfl rfl ?_); first | omega | assumption) | exact qbr rfl rfl (by first | omega | assumption | (simp; done) | exact fun h => h aQ | fail) | exact qbq rfl rfl (by first | omega | assumption | (simp; done) | exact fun h => h aQ | fail) | exact ze3 rfl rfl rfl)) | refine qqr rfl ?_ | refine t_T rfl rfl (by first | omega | assumption | (simp; done) | exact fun h => h aQ | fail) ?_ | refine t_F rfl rfl (by first | omega | assumption | (simp; done) | exact fun h => h aQ | fail) ?_ | refine l_T rfl rfl (by first | omega | assumption | (simp; done) | exact fun h => h aQ | fail) ?_ | refine l_F rfl rfl (by first | omega | assumption | (simp; done) | exact fun h => h aQ | fail) ?_); exact h.h) : p := s ⟨k⟩
theorem goY {p q : Prop} (k : q) (s : Kp q → p := by intro h; refine zi6 kQ ?_; (repeat first | (apply d_w [] rfl rfl rfl kQ (fun _ h => by first | exact h | exact Hp.sub h (.cons _ (.refl _)) | exact Hp.sub h (.cons _ (.cons _ (.refl _))) | exact Hp.sub h (.cons _ (.cons _ (.cons _ (.refl _)))) | exact Hp.sub h (.cons _ (.cons _ (.cons _ (.cons _ (.refl _))))) | exact Hp.sub h (.cons _ (.cons _ (.cons _ (.cons _ (.cons _ (.refl _)))))) | exact Hp.sub h (.cons _ (.cons _ (.cons _ (.cons _ (.cons _ (.cons _ (.refl _))))))) | exact Hp.sub h (.cons_cons _ (.cons_cons _ (aD _))) | exact Hp.sub h (.cons _ (.cons_cons _ (.cons_cons _ (aD _))))); focus (first | exact zdu rfl | exact zcb rfl | exact qbj rfl rfl | exact zc6 rfl rfl | exact zct rfl rfl | exact zem rfl rfl | exact zhb rfl rfl | exact zds rfl rfl | exact qbp rfl | exact zdt rfl rfl (by repeat first | exact .head _ | apply List.Mem.tail) | exact zhl rfl rfl (by repeat first | exact .head _ | apply List.Mem.tail) rfl | exact zcl rfl rfl (by repeat first | exact .head _ | apply List.Mem.tail) rfl | exact zdk rfl rfl (by repeat first | exact .head _ | apply List.Mem.tail) | exact zl0 rfl rfl rfl | exact zzr rfl rfl rfl | exact zha rfl rfl rfl rfl rfl | exact zw2 rfl rfl | exact qnm rfl | exact zqm rfl rfl | exact zqn rfl rfl rfl | exact zqp rfl rfl rfl | exact zqq rfl rfl rfl rfl | ((first | refine zzo rfl rfl ?_ | refine zj5 rfl rfl rfl ?_ | refine zl1 rfl rfl rfl ?_ | refine qbu rfl rfl rfl ?_ | refine qbs rfl rfl rfl ?_ | refine qbt rfl rfl rfl ?_ | refine zl2 rfl rfl rfl rfl ?_ | refine qbo rfl rfl rfl rfl ?_ | refine qbn rfl rfl rfl ?_ | refine qbm rfl rfl rfl ?_ | refine qnk rfl rfl rfl rfl ?_ | refine qh4 rfl rfl rfl ?_ | refine zqr rfl rfl rfl rfl rfl ?_ | refine zzq rfl rfl rfl rfl rfl ?_); first | omega | assumption) | exact qbr rfl rfl (by first | omega | assumption | (simp; done) | exact fun h => h aQ | fail) | exact qbq rfl rfl (by first | omega | assumption | (simp; done) | exact fun h => h aQ | fail) | exact ze3 rfl rfl rfl)) | refine qh2 [] rfl rfl rfl kQ (fun _ h => by first | exact h | exact Hp.sub h (.cons _ (.refl _)) | exact Hp.sub h (.cons _ (.cons _ (.refl _))) | exact Hp.sub h (.cons _ (.cons _ (.cons _ (.refl _)))) | exact Hp.sub h (.cons _ (.cons _ (.cons _ (.cons _ (.refl _))))) | exact Hp.sub h (.cons _ (.cons _ (.cons _ (.cons _ (.cons _ (.refl _)))))) | exact Hp.sub h (.cons _ (.cons _ (.cons _ (.cons _ (.cons _ (.cons _ (.refl _))))))) | exact Hp.sub h (.cons_cons _ (.cons_cons _ (aD _))) | exact Hp.sub h (.cons _ (.cons_cons _ (.cons_cons _ (aD _))))) ?_ | refine d_T [] rfl rfl rfl rfl (by first | omega | assumption | (simp; done) | exact fun h => h aQ | fail) ?_ | refine d_F [] rfl rfl rfl rfl (by first | omega | assumption | (simp; done) | exact fun h => h aQ | fail) ?_); refine zei kQ ?_; exact h.h) : p := s ⟨k⟩
theorem goV {P : Program} {Q : Exit → Act → World → Prop} {N : Fm} {l : zaq} {H S : World → Prop} {ops : Array Oper} {t : Nat} {i n d : Nat} {listed : Array Bool} {op : Op} {ty : TypeId} {pos : String} {after : Array Edge} {g : Option (Nat × Bool)} {v : Value} (hp : pick ops listed [] = some i) (hi : nth ops.toList i = some ⟨some d, op, ty, pos, after, g⟩) (hv : OV P op ty l S v) (k : HD P ops Q S t N n (listed.setIfInBounds i true) ((d, v) :: l) H) (hb : zp7 ops t listed i = true := by kernel_rfl) (hS : ∀ w, H w → S w := by intro w h; first | exact h | exact Hp.sub h (.cons _ (.refl _)) | exact Hp.sub h (.cons _ (.cons _ (.refl _))) | exact Hp.sub h (.cons _ (.cons _ (.cons _ (.refl _)))) | exact Hp.sub h (.cons _ (.cons _ (.cons _ (.cons _ (.refl _))))) | exact Hp.sub h (.cons _ (.cons _ (.cons _ (.cons _ (.cons _ (.refl _)))))) | exact Hp.sub h (.cons _ (.cons _ (.cons _ (.cons _ (.cons _ (.cons _ (.refl _))))))) | exact Hp.sub h (.cons_cons _ (.cons_cons _ (aD _))) | exact Hp.sub h (.cons _ (.cons_cons _ (.cons_cons _ (aD _))))) (hg : okG ops l g = true := by rfl) (hok : ze5 N l op d = true := by rfl) : HD P ops Q S t N (n + 1) listed l H := d_v [] hp hi hb hS hg hok hv k
end Go.Eng
namespace Go.Proofs.YtkkfifhaobjicaaGreatDoor
open Go.RowKit Go.Eng Go.Eng.Tr
set_option maxRecDepth 100000
set_option maxHeartbeats 40000000
def kB (k : K) : ByteArray := ⟨k.toArray⟩
def kV (k : K) : Value := .string (kB k)
theorem zex (k : K) : (kB k).toList = k := by rw [ByteArray.toList_eq]; simp [kB]
theorem qo5 {a b : K} : kB a = kB b ↔ a = b := ⟨fun h => by rw [← zex a, h, zex], fun h => by rw [h]⟩
theorem qo6 (a b : K) : seq (kB a) (kB b) = decide (a = b) := by rw [dA, zug, decide_eq_true_iff, qo5]
theorem zrx (a b : K) : Op.bytesLess a b = decide (kl a b) := by rw [dA, decide_eq_true_iff]; exact Iff.rfl
theorem qf2 (a : ByteArray) (w : World) : Pu Tryz.prog 141 #[.string a] w (.bool false) := by
 refine zbh [_] Tryz.func141 rfl rfl ?_
 simp only [zaa]
 (repeat refine s_ ?_)
 exact zcz rfl rfl (by simp [seq])
theorem qcv (a : ByteArray) (w : World) : Pu Tryz.prog 104 #[.string a] w (.bool false) := by
 refine zbh [_] Tryz.func104 rfl rfl ?_
 simp only [zaa]
 (repeat refine s_ ?_)
 exact zcz rfl rfl (by simp [seq])
theorem qcm (a b : K) (w : World) : Pu Tryz.prog 103 #[kV a, kV b] w (.bool (decide (kl a b))) := by
 refine zbh [_, _] Tryz.func103 rfl rfl ?_
 unfold kV
 simp only [zaa, Nat.reduceAdd]
 (repeat refine s_ ?_)
 refine lPu rfl (fun w1 hw1 => qf2 _ w1) ?_
 (repeat refine s_ ?_)
 exact zcz rfl rfl (by rw [zex, zex, zrx])
theorem zwo (a : Option Addr) (ns : List K) (c : Nat) (hs : Ks ns) (hL : ns.length ≤ 1000000) (k : K) (w : World) (hr : Rd w a (ns.map kV)) :
  Pu Tryz.prog 63 #[.slice a ns.length c, kV k] w (.tuple #[.int .i64 (lb ns k : Nat), .bool (fd ns k)]) := by
 refine zbh [_, _] Tryz.func63 rfl rfl ?_
 simp only [zaa, Nat.reduceAdd]
 (repeat refine s_ ?_)
 refine zcp (α := Nat × Nat) (fun y => [(0, .slice a ns.length c), (1, kV k), (6, .int .i64 ns.length), (7, .int .i64 y.1), (8, .int .i64 y.2)])
  (fun y => y.1 ≤ y.2 ∧ y.2 ≤ ns.length ∧ (∀ j (h : j < ns.length), j < y.1 → kl ns[j] k) ∧ ∀ j (h : j < ns.length), y.2 ≤ j → ¬ kl ns[j] k) (fun _ => []) (fun y => y.2 - y.1) (0, ns.length) ⟨rfl, rfl, rfl, rfl, rfl, trivial⟩ ⟨aV _, aX _, fun k _ h => absurd h (fC _), fun k h h' => by simp only at h'; omega⟩ (fun _ h => h) fun ⟨i, j⟩ ⟨h1, h2, h3, h4⟩ => ?_
 simp only at h1 h2 h3 h4 ⊢
 by_cases hij : i < j
 ·obtain ⟨b', off, rfl, hr'⟩ := hr.at_ (by intro h; have := congrArg List.length h; rw [aG, eE] at this; omega)
  obtain ⟨q, hq⟩ : ∃ q, (i + j) / 2 ^ 1 = q := ⟨_, rfl⟩
  have hql : q < ns.length := oQ
  obtain ⟨kq, hkq⟩ : ∃ x, ns[q] = x := ⟨_, rfl⟩
  have hget : (ns.map kV)[q]? = some (kV kq) := by rw [aN, aB hql, hkq]; rfl
  (repeat refine s_ ?_)
  refine l_w rfl (qh4 rfl rfl rfl oQ) ?_
  (repeat refine s_ ?_)
  refine l_w rfl (qh4 rfl rfl rfl oQ) ?_
  rw [hq]
  (repeat refine s_ ?_)
  refine l_w rfl (zay rfl rfl (fun w' hw' => zbe hr' (fun h => h) hw' q (kV kq) hget)) ?_
  (repeat refine s_ ?_)
  refine lPu rfl (fun w1 hw1 => qcm _ _ w1) ?_
  (repeat refine s_ ?_)
  subst hkq
  refine qp3 rfl rfl (fun hl => ?_) (fun hl => ?_)
  ·(repeat refine s_ ?_)
   refine zav (q + 1, j) ⟨rfl, rfl, rfl, rfl, rfl, trivial⟩ ⟨by simp only; omega, h2, fun e he heq => ?_, h4⟩ (fun _ h => h) (by simp only; omega)
   simp only at heq
   by_cases e' : e = q
   ·subst e'; exact hl
   ·exact zb1 (cM.1 hs e q he hql oQ) hl
  ·(repeat refine s_ ?_)
   refine zav (i, q) ⟨rfl, rfl, rfl, rfl, rfl, trivial⟩ ⟨by simp only; omega, by simp only; omega, h3, fun e he heq => ?_⟩ (fun _ h => h) (by simp only; omega)
   simp only at heq
   by_cases e' : e = q
   ·subst e'; exact hl
   ·exact fun h => hl (zb1 (cM.1 hs q e hql he oQ) h)
 ·obtain rfl : i = j := oQ
  have hlb : lb ns k = i := qpd oQ h3 (fun h => h4 i h (aX _))
  rw [hlb]
  by_cases hi : i < ns.length
  ·obtain ⟨b', off, rfl, hr'⟩ := hr.at_ (by intro h; have := congrArg List.length h; rw [aG, eE] at this; omega)
   have hfd : fd ns k = decide (ns[i] = k) := by unfold fd; rw [hlb, aB hi]; simp
   rw [hfd]
   obtain ⟨kq, hkq⟩ : ∃ x, ns[i] = x := ⟨_, rfl⟩
   have hget : (ns.map kV)[i]? = some (kV kq) := by rw [aN, aB hi, hkq]; rfl
   rw [hkq]
   (repeat refine s_ ?_)
   refine l_w rfl (zay rfl rfl (fun w' hw' => zbe hr' (fun h => h) hw' i (kV kq) hget)) ?_
   (repeat refine s_ ?_)
   unfold kV
   refine l_w rfl (zw2 rfl rfl) ?_
   rw [qo6]
   by_cases he : kq = k
   ·rw [decide_eq_true he]
    (repeat refine s_ ?_)
    exact zhm rfl rfl rfl rfl
   ·rw [decide_eq_false he]
    (repeat refine s_ ?_)
    refine l_w rfl (zay rfl rfl (fun w' hw' => zbe hr' (fun h => h) hw' i (kV kq) hget)) ?_
    (repeat refine s_ ?_)
    refine lPu rfl (fun w1 hw1 => qcv _ w1) ?_
    (repeat refine s_ ?_)
    exact zhm rfl rfl rfl rfl
  ·have hf : fd ns k = false := by
    unfold fd; rw [hlb, cR oQ]; rfl
   rw [hf]
   (repeat refine s_ ?_)
   exact zhm rfl rfl rfl rfl
theorem zjn {w w1 w2 : World} (h : Fr none' w w1) (g : Fr none' w1 w2) : Fr none' w w2 := ⟨g.os.trans h.os, g.tape.trans h.tape, g.output.trans h.output, cL h.size g.size, fun k hk hF => (g.block k (bG hk h.size) hF).trans (h.block k hk hF)⟩
def iV (k : Nat) : Value := .int .i64 (k : Nat)
def qn6 (g : FuncId) (cs : List Value) {α : Type} (enc : α → Value) (l : List α) (p : α → Bool) (w : World) : Prop := zbu Tryz.prog g = true ∧ ∀ x ∈ l, ∀ w', Fr none' w w' → Pu Tryz.prog g ([enc x] ++ cs).toArray w' (.bool (p x))
theorem zz2 {α : Type} (l : List α) (p : α → Bool) (i : Nat) (hi : i < l.length) (h : ∀ j (hj : j < l.length), j < i → p l[j] = false) (hp : p l[i] = true) : l.any p = true := List.any_eq_true.2 ⟨_, aR hi, hp⟩
theorem zvs (a : Option Addr) (ns : List K) (c : Nat) (g : FuncId) (cs : List Value) (p : K → Bool) (hL : ns.length ≤ 1000000) (w : World) (hr : Rd w a (ns.map kV)) (hg : qn6 g cs kV ns p w) :
  Ct Tryz.prog 205 #[.slice a ns.length c, .func (.func g) #[] cs.toArray] w none' (fun i : Int => .int .i64 i) (fun i => decide (0 ≤ i) = ns.any p ∧ -1 ≤ i ∧ i ≤ 1000000) (fun _ => []) := by
 refine zfv [_, _] Tryz.func205 rfl rfl ?_
 simp only [zaa, Nat.reduceAdd]
 (repeat refine s_ ?_)
 refine zcp (α := Nat) (fun i => [(0, .slice a ns.length c), (1, .func (.func g) #[] cs.toArray), (7, .int .i64 ns.length), (8, .int .i64 i)]) (fun i => i ≤ ns.length ∧ ∀ j (h : j < ns.length), j < i → p ns[j] = false) (fun _ => []) (fun i => ns.length - i) 0 ⟨rfl, rfl, rfl, rfl, trivial⟩ ⟨aV _, fun j _ h => absurd h (fC _)⟩ (fun _ h => h) fun i ⟨h1, h2⟩ => ?_
 by_cases hi : i < ns.length
 ·obtain ⟨b', off, rfl, hr'⟩ := hr.at_ (by intro h; have := congrArg List.length h; rw [aG, eE] at this; omega)
  obtain ⟨kq, hkq⟩ : ∃ x, ns[i] = x := ⟨_, rfl⟩
  have hget : (ns.map kV)[i]? = some (kV kq) := by rw [aN, aB hi, hkq]; rfl
  (repeat refine s_ ?_)
  refine l_w rfl (zay rfl rfl (fun w' hw' => zbe hr' (fun h => h) hw' i (kV kq) hget)) ?_
  (repeat refine s_ ?_)
  refine zgt rfl (zmv (fs := []) rfl hg.1 rfl rfl rfl fun w1 hw1 => hg.2 kq (hkq ▸ aR hi) w1 hw1.fr) fun _ => ?_
  (repeat refine s_ ?_)
  refine qp3 rfl rfl (fun hl => ?_) (fun hl => ?_)
  ·(repeat refine s_ ?_)
   exact zbs (i : Int) rfl rfl rfl ⟨by rw [zz2 ns p i hi h2 (hkq ▸ hl)]; exact decide_eq_true oQ, oQ, oQ⟩ (aD _) (fun _ h => nomatch h)
  ·(repeat refine s_ ?_)
   refine zav (i + 1) ⟨rfl, rfl, rfl, rfl, trivial⟩ ⟨hi, fun j hj hji => ?_⟩ (fun _ h => h) oQ
   by_cases e : j = i
   ·subst e; rw [hkq]; simpa using hl
   ·exact h2 j hj oQ
 ·(repeat refine s_ ?_)
  refine zbs (-1 : Int) rfl rfl rfl ⟨?_, oQ, oQ⟩ (aD _) (fun _ h => nomatch h)
  rw [decide_eq_false oQ]
  refine (List.any_eq_false.2 fun x hx => ?_).symm
  obtain ⟨j, hj, rfl⟩ := bI hx
  rw [h2 j hj oQ]
  exact bF
theorem zou (a : Option Addr) (ns : List K) (c : Nat) (g : FuncId) (cs : List Value) (p : K → Bool) (hL : ns.length ≤ 1000000) (w : World) (hr : Rd w a (ns.map kV)) (hg : qn6 g cs kV ns p w) :
  Pu Tryz.prog 187 #[.slice a ns.length c, .func (.func g) #[] cs.toArray] w (.bool (ns.any p)) := by
 refine zbh [_, _] Tryz.func187 rfl rfl ?_
 simp only [zaa, Nat.reduceAdd]
 (repeat refine s_ ?_)
 refine ze7 rfl rfl kQ rfl (fun w1 hw1 => zvs a ns c g cs p hL w1 (hr.keep hw1) ⟨hg.1, fun x hx w' hf => hg.2 x hx w' (zjn hw1.fr hf)⟩) fun x hx => ?_
 obtain ⟨e1, e2, e3⟩ := hx
 (repeat refine s_ ?_)
 exact zcz rfl rfl (by rw [e1])
theorem ztf (k : K) (g : FuncId) (cs : List Value) (b : Nat) (v : Bool) (w : World) (hb : zbu Tryz.prog g = true) (hc : w.cell? ⟨b, 0, none⟩ = some (.func (.func g) #[] cs.toArray)) (hg : ∀ w', Fr none' w w' → Pu Tryz.prog g ([kV k] ++ cs).toArray w' (.bool v)) :
  Pu Tryz.prog 188 #[kV k, .pointer (some ⟨b, 0, none⟩)] w (.bool (!v)) := by
 refine zbh [_, _] Tryz.func188 rfl rfl ?_
 simp only [zaa, Nat.reduceAdd]
 (repeat refine s_ ?_)
 refine l_w rfl (ze2 rfl rfl (fun h => h) hc) ?_
 (repeat refine s_ ?_)
 refine zgt rfl (zmv (fs := []) rfl hb rfl rfl rfl fun w1 hw1 => hg w1 hw1.fr) fun _ => ?_
 (repeat refine s_ ?_)
 exact zcz rfl rfl rfl
theorem zvj (a : Option Addr) (ns : List K) (c : Nat) (g : FuncId) (cs : List Value) (p : K → Bool) (hL : ns.length ≤ 1000000) (w : World) (hr : Rd w a (ns.map kV)) (hg : qn6 g cs kV ns p w) :
  Pu Tryz.prog 169 #[.slice a ns.length c, .func (.func g) #[] cs.toArray] w (.bool (ns.all p)) := by
 refine zbh [_, _] Tryz.func169 rfl rfl ?_
 simp only [zaa, Nat.reduceAdd]
 (repeat refine s_ ?_)
 refine zd3 rfl rfl rfl fun b1 _ => ?_
 (repeat refine s_ ?_)
 refine l_w rfl (zn5 rfl) ?_
 (repeat refine s_ ?_)
 refine lPu rfl (fun w1 hw1 => zou a ns c 188 [.pointer (some ⟨b1, 0, none⟩)] (fun x => !p x) hL w1 (hr.keep hw1) ⟨kQ, fun x hx w' hf => ztf x g cs b1 (p x) w' hg.1 (((Hp.start w1 none').keep hf).old (fun h => h) (zdv (hw1.get (.head _)) rfl)) fun w'' hf' => hg.2 x hx w'' (zjn hw1.fr (zjn hf hf'))⟩) ?_
 (repeat refine s_ ?_)
 exact zcz rfl rfl (by rw [List.not_any_eq_all_not]; simp)
theorem zvr (a : Option Addr) (ns : List Nat) (c : Nat) (g : FuncId) (cs : List Value) (p : Nat → Bool) (hL : ns.length ≤ 1000000) (w : World) (hr : Rd w a (ns.map iV)) (hg : qn6 g cs iV ns p w) :
  Ct Tryz.prog 189 #[.slice a ns.length c, .func (.func g) #[] cs.toArray] w none' (fun i : Int => .int .i64 i) (fun i => decide (0 ≤ i) = ns.any p ∧ -1 ≤ i ∧ i ≤ 1000000) (fun _ => []) := by
 refine zfv [_, _] Tryz.func189 rfl rfl ?_
 simp only [zaa, Nat.reduceAdd]
 (repeat refine s_ ?_)
 refine zcp (α := Nat) (fun i => [(0, .slice a ns.length c), (1, .func (.func g) #[] cs.toArray), (7, .int .i64 ns.length), (8, .int .i64 i)]) (fun i => i ≤ ns.length ∧ ∀ j (h : j < ns.length), j < i → p ns[j] = false) (fun _ => []) (fun i => ns.length - i) 0 ⟨rfl, rfl, rfl, rfl, trivial⟩ ⟨aV _, fun j _ h => absurd h (fC _)⟩ (fun _ h => h) fun i ⟨h1, h2⟩ => ?_
 by_cases hi : i < ns.length
 ·obtain ⟨b', off, rfl, hr'⟩ := hr.at_ (by intro h; have := congrArg List.length h; rw [aG, eE] at this; omega)
  obtain ⟨kq, hkq⟩ : ∃ x, ns[i] = x := ⟨_, rfl⟩
  have hget : (ns.map iV)[i]? = some (iV kq) := by rw [aN, aB hi, hkq]; rfl
  (repeat refine s_ ?_)
  refine l_w rfl (zay rfl rfl (fun w' hw' => zbe hr' (fun h => h) hw' i (iV kq) hget)) ?_
  (repeat refine s_ ?_)
  refine zgt rfl (zmv (fs := []) rfl hg.1 rfl rfl rfl fun w1 hw1 => hg.2 kq (hkq ▸ aR hi) w1 hw1.fr) fun _ => ?_
  (repeat refine s_ ?_)
  refine qp3 rfl rfl (fun hl => ?_) (fun hl => ?_)
  ·(repeat refine s_ ?_)
   exact zbs (i : Int) rfl rfl rfl ⟨by rw [zz2 ns p i hi h2 (hkq ▸ hl)]; exact decide_eq_true oQ, oQ, oQ⟩ (aD _) (fun _ h => nomatch h)
  ·(repeat refine s_ ?_)
   refine zav (i + 1) ⟨rfl, rfl, rfl, rfl, trivial⟩ ⟨hi, fun j hj hji => ?_⟩ (fun _ h => h) oQ
   by_cases e : j = i
   ·subst e; rw [hkq]; simpa using hl
   ·exact h2 j hj oQ
 ·(repeat refine s_ ?_)
  refine zbs (-1 : Int) rfl rfl rfl ⟨?_, oQ, oQ⟩ (aD _) (fun _ h => nomatch h)
  rw [decide_eq_false oQ]
  refine (List.any_eq_false.2 fun x hx => ?_).symm
  obtain ⟨j, hj, rfl⟩ := bI hx
  rw [h2 j hj oQ]
  exact bF
theorem zot (a : Option Addr) (ns : List Nat) (c : Nat) (g : FuncId) (cs : List Value) (p : Nat → Bool) (hL : ns.length ≤ 1000000) (w : World) (hr : Rd w a (ns.map iV)) (hg : qn6 g cs iV ns p w) :
  Pu Tryz.prog 171 #[.slice a ns.length c, .func (.func g) #[] cs.toArray] w (.bool (ns.any p)) := by
 refine zbh [_, _] Tryz.func171 rfl rfl ?_
 simp only [zaa, Nat.reduceAdd]
 (repeat refine s_ ?_)
 refine ze7 rfl rfl kQ rfl (fun w1 hw1 => zvr a ns c g cs p hL w1 (hr.keep hw1) ⟨hg.1, fun x hx w' hf => hg.2 x hx w' (zjn hw1.fr hf)⟩) fun x hx => ?_
 obtain ⟨e1, e2, e3⟩ := hx
 (repeat refine s_ ?_)
 exact zcz rfl rfl (by rw [e1])
theorem zte (k : Nat) (g : FuncId) (cs : List Value) (b : Nat) (v : Bool) (w : World) (hb : zbu Tryz.prog g = true) (hc : w.cell? ⟨b, 0, none⟩ = some (.func (.func g) #[] cs.toArray)) (hg : ∀ w', Fr none' w w' → Pu Tryz.prog g ([iV k] ++ cs).toArray w' (.bool v)) :
  Pu Tryz.prog 172 #[iV k, .pointer (some ⟨b, 0, none⟩)] w (.bool (!v)) := by
 refine zbh [_, _] Tryz.func172 rfl rfl ?_
 simp only [zaa, Nat.reduceAdd]
 (repeat refine s_ ?_)
 refine l_w rfl (ze2 rfl rfl (fun h => h) hc) ?_
 (repeat refine s_ ?_)
 refine zgt rfl (zmv (fs := []) rfl hb rfl rfl rfl fun w1 hw1 => hg w1 hw1.fr) fun _ => ?_
 (repeat refine s_ ?_)
 exact zcz rfl rfl rfl
theorem zvi (a : Option Addr) (ns : List Nat) (c : Nat) (g : FuncId) (cs : List Value) (p : Nat → Bool) (hL : ns.length ≤ 1000000) (w : World) (hr : Rd w a (ns.map iV)) (hg : qn6 g cs iV ns p w) :
  Pu Tryz.prog 145 #[.slice a ns.length c, .func (.func g) #[] cs.toArray] w (.bool (ns.all p)) := by
 refine zbh [_, _] Tryz.func145 rfl rfl ?_
 simp only [zaa, Nat.reduceAdd]
 (repeat refine s_ ?_)
 refine zd3 rfl rfl rfl fun b1 _ => ?_
 (repeat refine s_ ?_)
 refine l_w rfl (zn5 rfl) ?_
 (repeat refine s_ ?_)
 refine lPu rfl (fun w1 hw1 => zot a ns c 172 [.pointer (some ⟨b1, 0, none⟩)] (fun x => !p x) hL w1 (hr.keep hw1) ⟨kQ, fun x hx w' hf => zte x g cs b1 (p x) w' hg.1 (((Hp.start w1 none').keep hf).old (fun h => h) (zdv (hw1.get (.head _)) rfl)) fun w'' hf' => hg.2 x hx w'' (zjn hw1.fr (zjn hf hf'))⟩) ?_
 (repeat refine s_ ?_)
 exact zcz rfl rfl (by rw [List.not_any_eq_all_not]; simp)
theorem zzs (k : K) (n : Int) (b : Nat) (w : World) (hc : w.cell? ⟨b, 0, none⟩ = some (.int .i64 n)) (hk : k.length ≤ 1000000) :
  Pu Tryz.prog 170 #[kV k, .pointer (some ⟨b, 0, none⟩)] w (.bool (decide ((k.length : Int) = n))) := by
 refine zbh [_, _] Tryz.func170 rfl rfl ?_
 unfold kV
 simp only [zaa, Nat.reduceAdd]
 (repeat refine s_ ?_)
 refine l_w rfl (ze2 rfl rfl (fun h => h) hc) ?_
 (repeat refine s_ ?_)
 refine zcz rfl rfl ?_
 rw [show (kB k).size = k.length from bR]
 exact congrArg Value.bool (by rw [dA]; simp)
theorem zpd (a : Option Addr) (ns : List K) (c : Nat) (n : Int) (hL : ns.length ≤ 1000000) (hk : ∀ k ∈ ns, k.length ≤ 1000000) (w : World) (hr : Rd w a (ns.map kV)) :
  Pu Tryz.prog 144 #[.slice a ns.length c, .int .i64 n] w (.bool (ns.all fun k => decide ((k.length : Int) = n))) := by
 refine zbh [_, _] Tryz.func144 rfl rfl ?_
 simp only [zaa, Nat.reduceAdd]
 (repeat refine s_ ?_)
 refine zd3 rfl rfl rfl fun b1 _ => ?_
 (repeat refine s_ ?_)
 refine l_w rfl (zn5 rfl) ?_
 (repeat refine s_ ?_)
 refine lPu rfl (fun w1 hw1 => zvj a ns c 170 [.pointer (some ⟨b1, 0, none⟩)] (fun k => decide ((k.length : Int) = n)) hL w1 (hr.keep hw1) ⟨kQ, fun x hx w' hf => zzs x n b1 w' (((Hp.start w1 none').keep hf).old (fun h => h) (zdv (hw1.get (.head _)) rfl)) (hk x hx)⟩) ?_
 (repeat refine s_ ?_)
 exact zcz rfl rfl rfl
theorem qcr (k : Nat) (w : World) : Pu Tryz.prog 146 #[iV k] w (.bool (decide (1 ≤ k ∧ k < 1024))) := by
 refine zbh [_] Tryz.func146 rfl rfl ?_
 unfold iV
 simp only [zaa]
 by_cases h1 : 1 ≤ (k : Int)
 ·(repeat refine s_ ?_)
  refine zcz rfl rfl (congrArg Value.bool ?_)
  rw [dA, decide_eq_true_iff, decide_eq_true_iff]
  omega
 ·(repeat refine s_ ?_)
  refine zcz rfl rfl (congrArg Value.bool ?_)
  rw [decide_eq_false oQ]
structure ShB (s : Sh) : Prop where
 k1 : 1 ≤ s.kw
 k2 : s.kw ≤ 64
 v2 : s.vw ≤ 64
def shI (k v : Int) : Value := .agg #[.int .i64 k, .int .i64 v]
def shV (s : Sh) : Value := shI s.kw s.vw
structure Pl where
 k : Option Addr × Nat
 v : Option Addr × Nat
 d : Option Addr × Nat
def ndV (n : Nd) (a : Pl) : Value := .agg #[.bool n.leaf, .slice a.k.1 n.keys.length a.k.2, .slice a.v.1 n.vals.length a.v.2, .slice a.d.1 n.kids.length a.d.2]
structure NdR (w : World) (n : Nd) (a : Pl) : Prop where
 k : Rd w a.k.1 (n.keys.map kV)
 v : Rd w a.v.1 (n.vals.map kV)
 d : Rd w a.d.1 (n.kids.map iV)
structure NdB (n : Nd) : Prop where
 k : n.keys.length ≤ 100000
 v : n.vals.length ≤ 100000
 d : n.kids.length ≤ 100000
 kl : ∀ k ∈ n.keys, k.length ≤ 1000000
 vl : ∀ k ∈ n.vals, k.length ≤ 1000000
theorem qcy (k v : Int) (w : World) : Pu Tryz.prog 47 #[shI k v] w (.bool (decide (1 ≤ k ∧ k ≤ 64 ∧ 0 ≤ v ∧ v ≤ 64))) := by
 refine zbh [_] Tryz.func47 rfl rfl ?_
 unfold shI
 simp only [zaa]
 refine goA ?_
 refine zbt rfl rfl fun b1 hb1 => ?_
 by_cases h1 : 1 ≤ k
 ·by_cases h2 : k ≤ 64
  ·by_cases h3 : 0 ≤ v
   ·refine goA ?_
    exact zcz rfl rfl (congrArg Value.bool (by rw [dA, decide_eq_true_iff, decide_eq_true_iff]; omega))
   ·refine goA ?_
    exact zcz rfl rfl (congrArg Value.bool (by rw [decide_eq_false oQ]))
  ·refine goA ?_
   exact zcz rfl rfl (congrArg Value.bool (by rw [decide_eq_false oQ]))
 ·refine goA ?_
  exact zcz rfl rfl (congrArg Value.bool (by rw [decide_eq_false oQ]))
theorem zhu {s : Sh} (hs : ShB s) (w : World) : Pu Tryz.prog 47 #[shV s] w (.bool true) := by
 have h := qcy s.kw s.vw w
 rw [decide_eq_true ⟨by have := hs.k1; omega, by have := hs.k2; omega, oQ, by have := hs.v2; omega⟩] at h
 exact h
theorem zgp {s : Sh} (hs : ShB s) (w : World) : Pu Tryz.prog 19 #[shV s] w (.int .i64 s.cap) := by
 have h1 := hs.k1
 have h2 := hs.k2
 have h3 := hs.v2
 refine zbh [_] Tryz.func19 rfl rfl ?_
 unfold shV shI
 simp only [zaa]
 refine goA ?_
 refine zbt rfl rfl fun b1 hb1 => ?_
 refine goA ?_
 refine lPu rfl (fun w1 hw1 => zhu hs w1) ?_
 refine goA ?_
 exact zcz rfl rfl rfl
theorem zhq {s : Sh} (hs : ShB s) (w : World) : Pu Tryz.prog 105 #[shV s] w (.int .i64 s.fan) := by
 have h1 := hs.k1
 have h2 := hs.k2
 have h3 := hs.v2
 refine zbh [_] Tryz.func105 rfl rfl ?_
 unfold shV shI
 simp only [zaa]
 refine goA ?_
 refine zbt rfl rfl fun b1 hb1 => ?_
 refine goA ?_
 refine lPu rfl (fun w1 hw1 => zhu hs w1) ?_
 refine goA ?_
 exact zcz rfl rfl rfl
theorem zro (n : Nd) (a : Pl) (hs : Ks n.keys) (hb : n.keys.length ≤ 1000000) (k : K) (w : World) (hr : Rd w a.k.1 (n.keys.map kV)) : Pu Tryz.prog 38 #[ndV n a, kV k] w (.tuple #[.int .i64 (lb n.keys k : Nat), .bool (fd n.keys k)]) := by
 refine zbh [_, _] Tryz.func38 rfl rfl ?_
 unfold ndV
 simp only [zaa, Nat.reduceAdd]
 refine goA ?_
 refine zbt rfl rfl fun b1 hb1 => ?_
 refine goA ?_
 refine lPu rfl (fun w1 hw1 => zwo a.k.1 n.keys a.k.2 hs hb k w1 (hr.keep hw1)) ?_
 refine goA ?_
 exact zhm rfl rfl rfl rfl
theorem qcc (n : Nd) (a : Pl) (hs : Ks n.keys) (hb : n.keys.length ≤ 1000000) (k : K) (w : World) (hr : Rd w a.k.1 (n.keys.map kV)) : Pu Tryz.prog 62 #[ndV n a, kV k] w (.int .i64 (dn n.keys k : Nat)) := by
 have hl := zvy n.keys k
 refine zbh [_, _] Tryz.func62 rfl rfl ?_
 unfold dn
 unfold ndV
 simp only [zaa, Nat.reduceAdd]
 refine goA ?_
 refine zbt rfl rfl fun b1 hb1 => ?_
 refine goA ?_
 refine lPu rfl (fun w1 hw1 => zro n a hs hb k w1 (hr.keep hw1)) ?_
 refine goA ?_
 cases fd n.keys k with
 | true =>
  refine goA ?_
  exact zcz rfl rfl rfl
 | false =>
  refine goA ?_
  exact zcz rfl rfl rfl
theorem qk0 : ∀ {l : List K}, (∀ j (h : j + 1 < l.length), kl l[j] l[j + 1]) → Ks l
 | [], _ => .nil
 | [a], _ => dZ _ _
 | a :: b :: l, h => by
  have h1 : kl a b := h 0 sQ
  have h2 : Ks (b :: l) := qk0 fun j hj => h (j + 1) (by simpa using hj)
  refine bL.2 ⟨fun x hx => ?_, h2⟩
  rcases aJ.1 hx with rfl | hx
  ·exact h1
  ·exact zb1 h1 ((bL.1 h2).1 x hx)
open Classical in
theorem qcq {s : Sh} (hs : ShB s) (n : Nd) (a : Pl) (hb : NdB n) (w : World) (hr : NdR w n a) : Pu Tryz.prog 108 #[shV s, ndV n a] w (.bool (decide (zf1 s n))) := by
 have h1 := hs.k1
 have h2 := hs.k2
 have h3 := hs.v2
 have hbk := hb.k
 have hbv := hb.v
 have hbd := hb.d
 refine zbh [_, _] Tryz.func108 rfl rfl ?_
 obtain ⟨⟨ka, kc⟩, ⟨va, vc⟩, ⟨da, dc⟩⟩ := a
 obtain ⟨rk, rv, rd⟩ := hr
 simp only at rk rv rd
 have hcap := zgp hs
 have hfan := zhq hs
 unfold shV shI at hcap hfan ⊢
 unfold ndV
 obtain ⟨lf, hlf⟩ : ∃ x, n.leaf = x := ⟨_, rfl⟩
 obtain ⟨nk, hnk⟩ : ∃ x, n.keys.length = x := ⟨_, rfl⟩
 obtain ⟨nv, hnv⟩ : ∃ x, n.vals.length = x := ⟨_, rfl⟩
 obtain ⟨nd, hnd⟩ : ∃ x, n.kids.length = x := ⟨_, rfl⟩
 rw [hlf, hnk, hnv, hnd]
 rw [hnk] at hbk
 rw [hnv] at hbv
 rw [hnd] at hbd
 simp only [zaa, Nat.reduceAdd]
 refine goA ?_
 refine zbt rfl rfl fun b1 hb1 => ?_
 refine goA ?_
 refine zbt rfl rfl fun b2 hb2 => ?_
 refine goA ?_
 refine zcp (α := Nat) (fun i => [(2, .pointer (some ⟨b1, 0, none⟩)), (3, .pointer (some ⟨b2, 0, none⟩)), (4, .bool false), (5, .int .i64 i)]) (fun i => 1 ≤ i ∧ (i ≤ nk ∨ i = 1) ∧ ∀ j (h : j + 1 < n.keys.length), j + 1 < i → kl n.keys[j] n.keys[j + 1]) (fun _ => _) (fun i => nk + 1 - i) 1 ⟨rfl, rfl, rfl, rfl, trivial⟩ ⟨aX _, .inr rfl, fun j _ h => absurd h oQ⟩ (fun _ h => h) fun i ⟨i1, i2, i3⟩ => ?_
 by_cases hi : i < nk
 ·obtain ⟨b', off, rfl, hr'⟩ := rk.at_ (by intro h; have := congrArg List.length h; rw [aG, eE] at this; omega)
  obtain ⟨j, rfl⟩ : ∃ j, i = j + 1 := ⟨i - 1, oQ⟩
  have hj1 : j + 1 < n.keys.length := oQ
  obtain ⟨kp, hkp⟩ : ∃ x, n.keys[j] = x := ⟨_, rfl⟩
  obtain ⟨kq, hkq⟩ : ∃ x, n.keys[j + 1] = x := ⟨_, rfl⟩
  have g1 : (n.keys.map kV)[j]? = some (kV kp) := by rw [aN, aB (Nat.lt_of_succ_lt hj1), hkp]; rfl
  have g2 : (n.keys.map kV)[j + 1]? = some (kV kq) := by rw [aN, aB hj1, hkq]; rfl
  refine goA ?_
  refine zi6 kQ ?_
  refine goE ?_
  refine goV rfl rfl (zay rfl rfl (fun w' hw' => zbe hr' (fun h => h) hw' (j + 1 - 1) (kV kp) g1)) ?_
  refine goE ?_
  refine goV rfl rfl (zay rfl rfl (fun w' hw' => zbe hr' (fun h => h) hw' (j + 1) (kV kq) g2)) ?_
  unfold kV
  refine goX ?_
  rw [zex, zex, zrx]
  refine qp3 rfl rfl (fun hl => ?_) (fun hl => ?_)
  ·have hnl : ¬ kl kp kq := hl
   refine goA ?_
   refine zcz rfl rfl (congrArg Value.bool (decide_eq_false fun hm => hnl ?_).symm)
   have := cM.1 hm.sorted j (j + 1) oQ oQ (eU j)
   rw [hkp, hkq] at this
   exact this
  ·have hnl : kl kp kq := Classical.not_not.1 hl
   refine goA ?_
   refine zav (j + 2) ⟨rfl, rfl, rfl, rfl, trivial⟩ ⟨oQ, oQ, fun e he hej => ?_⟩ (fun _ h => h) oQ
   by_cases e' : e = j
   ·subst e'; rw [hkp, hkq]; exact hnl
   ·exact i3 e he oQ
 ·have hks : Ks n.keys := qk0 fun j hj => i3 j hj oQ
  refine goA ?_
  obtain ⟨wk, hwk⟩ : ∃ x, (n.keys.all fun k => decide ((k.length : Int) = s.kw)) = x := ⟨_, rfl⟩
  refine lPu rfl (fun w1 hw1 => (by have := zpd ka n.keys kc s.kw oQ hb.kl w1 (rk.keep hw1); rw [hnk, hwk] at this; exact this)) ?_
  cases wk with
  | false =>
   refine goA ?_
   refine zcz rfl rfl (congrArg Value.bool (decide_eq_false fun hm => ?_).symm)
   have : (n.keys.all fun k => decide ((k.length : Int) = s.kw)) = true := eI.2 fun k hk => decide_eq_true (by have := hm.wide k hk; omega)
   rw [hwk] at this
   cases this
  | true =>
   have hwk : ∀ k ∈ n.keys, k.length = s.kw := fun k hk => by
    have := of_decide_eq_true (eI.1 hwk k hk)
    omega
   refine goA ?_
   cases lf with
   | true =>
    obtain ⟨wv, hwv⟩ : ∃ x, (n.vals.all fun k => decide ((k.length : Int) = s.vw)) = x := ⟨_, rfl⟩
    have hiff : zf1 s n ↔ nd = 0 ∧ nk = nv ∧ wv = true ∧ nk ≤ s.cap := by
     refine ⟨fun hm => ?_, fun ⟨e1, e2, e3, e4⟩ => ⟨hks, hwk, fun _ => ⟨bM oQ, oQ, fun v hv => ?_, oQ⟩, fun h => by rw [hlf] at h; cases h⟩⟩
     ·obtain ⟨f1, f2, f3, f4⟩ := hm.leaf hlf
      rw [f1] at hnd
      exact ⟨hnd.symm, oQ, by rw [← hwv]; exact eI.2 fun k hk => decide_eq_true (by have := f3 k hk; omega), oQ⟩
     ·rw [← hwv] at e3
      have := of_decide_eq_true (eI.1 e3 v hv)
      omega
    have hw2 : ∀ w', Fr none' w w' → Pu Tryz.prog 144 #[.slice va nv vc, .int .i64 s.vw] w' (.bool wv) := fun w' hw' => by
     have := zpd va n.vals vc s.vw oQ hb.vl w' (rv.fr hw')
     rw [hnv, hwv] at this
     exact this
    by_cases c1 : nd = 0
    ·by_cases c2 : nk = nv
     ·refine goA ?_
      refine zi6 kQ ?_
      refine goE ?_
      refine dPu 18 rfl rfl (fun w1 hw1 => hw2 w1 hw1.fr) ?_
      cases wv with
      | true =>
       refine goE ?_
       refine dPu 25 rfl rfl (fun w1 hw1 => hcap w1) ?_
       refine goX ?_
       exact zcz rfl rfl (congrArg Value.bool (by rw [dA, decide_eq_true_iff, decide_eq_true_iff, hiff]; exact ⟨fun h => ⟨c1, c2, rfl, oQ⟩, fun h => oQ⟩))
      | false =>
       refine goX ?_
       exact zcz rfl rfl (congrArg Value.bool (decide_eq_false fun hm => by have := (hiff.1 hm).2.2.1; cases this).symm)
     ·refine goA ?_
      refine goY ?_
      refine goA ?_
      exact zcz rfl rfl (congrArg Value.bool (decide_eq_false fun hm => by have := hiff.1 hm; omega).symm)
    ·refine goA ?_
     refine goY ?_
     refine goA ?_
     exact zcz rfl rfl (congrArg Value.bool (decide_eq_false fun hm => by have := hiff.1 hm; omega).symm)
   | false =>
    obtain ⟨wd, hwd⟩ : ∃ x, (n.kids.all fun k => decide (1 ≤ k ∧ k < 1024)) = x := ⟨_, rfl⟩
    have hiff : zf1 s n ↔ wd = true ∧ nv = 0 ∧ nd = nk + 1 ∧ 1 ≤ nk ∧ nd ≤ s.fan := by
     refine ⟨fun hm => ?_, fun ⟨e1, e2, e3, e4, e5⟩ => ⟨hks, hwk, fun h => by (rw [hlf] at h; cases h), fun _ => ⟨fun k hk => ?_, bM oQ, oQ, oQ, oQ⟩⟩⟩
     ·obtain ⟨f1, f2, f3, f4, f5⟩ := hm.inner hlf
      rw [f2] at hnv
      exact ⟨by rw [← hwd]; exact eI.2 fun k hk => decide_eq_true (f1 k hk), hnv.symm, oQ, oQ, oQ⟩
     ·rw [← hwd] at e1
      exact of_decide_eq_true (eI.1 e1 k hk)
    have hw2 : ∀ w', Fr none' w w' → Pu Tryz.prog 145 #[.slice da nd dc, .func (.func 146) #[] #[]] w' (.bool wd) := fun w' hw' => by
     have := zvi da n.kids dc 146 [] (fun k => decide (1 ≤ k ∧ k < 1024)) oQ w' (rd.fr hw') ⟨kQ, fun x _ w'' _ => qcr x w''⟩
     rw [hnd, hwd] at this
     exact this
    refine goA ?_
    refine lPu rfl (fun w1 hw1 => hw2 w1 hw1.fr) ?_
    cases wd with
    | false =>
     refine goA ?_
     refine goY ?_
     refine goA ?_
     exact zcz rfl rfl (congrArg Value.bool (decide_eq_false fun hm => by have := (hiff.1 hm).1; cases this).symm)
    | true =>
     by_cases c1 : nv = 0
     ·by_cases c2 : nd = nk + 1
      ·by_cases c3 : 1 ≤ nk
       ·refine goA ?_
        refine zi6 kQ ?_
        refine goE ?_
        refine dPu 28 rfl rfl (fun w1 hw1 => hfan w1) ?_
        refine goX ?_
        exact zcz rfl rfl (congrArg Value.bool (by rw [dA, decide_eq_true_iff, decide_eq_true_iff, hiff]; exact ⟨fun h => ⟨rfl, c1, c2, c3, oQ⟩, fun h => oQ⟩))
       ·refine goA ?_
        refine goY ?_
        refine goA ?_
        exact zcz rfl rfl (congrArg Value.bool (decide_eq_false fun hm => by have := hiff.1 hm; omega).symm)
      ·refine goA ?_
       refine goY ?_
       refine goA ?_
       exact zcz rfl rfl (congrArg Value.bool (decide_eq_false fun hm => by have := hiff.1 hm; omega).symm)
     ·refine goA ?_
      refine goY ?_
      refine goA ?_
      exact zcz rfl rfl (congrArg Value.bool (decide_eq_false fun hm => by have := hiff.1 hm; omega).symm)
end Go.Proofs.YtkkfifhaobjicaaGreatDoor
