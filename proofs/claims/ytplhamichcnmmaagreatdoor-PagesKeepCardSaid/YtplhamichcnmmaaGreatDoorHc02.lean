/- Ranges over a function: the round, the statement, the function that holds one; the iterator. Own work; no condition. -/
/- Strings and slices: slicing, '==', '+'; strings in memory. Own work; no condition. -/
import Derived.Test.YtplhamichcnmmaaGreatDoorHc01
import Derived.RangeFuncSeq
import Derived.RangeFuncRecord
import Derived.RangeFuncLeaves
import Derived.Laws.Strings2
import Derived.Laws.Strings3
set_option maxRecDepth 100000
namespace Go.Eng
open Go.RowKit
section
variable {P : Program} {Q : Exit → Act → World → Prop} {N : Fm} {l : Slots} {H : World → Prop} {ops : Array Oper} {rest : List Oper} {w0 : World} {F : Nat → Prop} {m : List Item}
/-! ### Items at a callee's beginning -/
def foots (L : List Item) : Nat → Prop := fun k => ∃ it ∈ L, it.foot k
def Here (it : Item) (w : World) : Prop := it.prop w ∧ it.Stable none' ∧ ∀ k, it.foot k → k < w.heap.size
theorem Item.Stable.ro {it : Item} (h : it.Stable none') (ro : Nat → Prop) : it.Stable ro := fun w w' hk hp => h w w' (fun k hk' => hk k (.inr (hk'.resolve_left fun f => f.elim))) hp
theorem Hp.begin {w : World} {L : List Item} (h : ∀ it ∈ L, Here it w) (ha : L.Pairwise Item.Apart) (F : Nat → Prop) (hF : ∀ k, foots L k → F k) : Hp w F L w :=
  ⟨.refl _ _, fun it hm => ⟨(h it hm).1, (h it hm).2.1.ro _, fun k hk => ⟨(h it hm).2.2 k hk, fun _ => hF k ⟨it, hm, hk⟩⟩⟩, ha⟩
def bundle (L : List Item) : Item := ⟨foots L, fun w => (∀ it ∈ L, Here it w) ∧ L.Pairwise Item.Apart⟩
theorem bundle_here {L : List Item} {w : World} (h : ∀ it ∈ L, Here it w) (ha : L.Pairwise Item.Apart) : Here (bundle L) w := by
  refine ⟨⟨h, ha⟩, fun w1 w2 hk hp => ⟨fun it hm => ?_, hp.2⟩, fun k ⟨it, hm, hk⟩ => (h it hm).2.2 k hk⟩
  obtain ⟨h1, h2, h3⟩ := hp.1 it hm
  have he : ∀ k, it.foot k → w2.heap[k]? = w1.heap[k]? := fun k hf => hk k (.inr ⟨it, hm, hf⟩)
  refine ⟨h2 w1 w2 (fun k hf => he k (hf.resolve_left fun f => f.elim)) h1, h2, fun k hf => ?_⟩
  have := he k hf
  have h4 := h3 k hf
  rw [Array.getElem?_eq_getElem h4] at this
  exact (Array.getElem?_eq_some_iff.1 this).1
theorem bundle_stable (L : List Item) : (bundle L).Stable none' := fun w1 w2 hk hp => by
  have h := bundle_here hp.1 hp.2
  exact h.2.1 w1 w2 hk hp
def Yd (P : Program) (ly : Nat) {σ : Type} (Y : σ → Item) (s : σ) (args : Array Value) (R : Bool → σ → Prop) : Prop :=
  ∀ w, Here (Y s) w → YieldAt Fence.wide 0 P ly args w fun e w' => ∃ b s', e = .returned (.bool b) ∧ R b s' ∧ Its (Y s).foot w [Y s'] w'
theorem run_yieldop {ly : Nat} {x : Operand} {xs : List Operand} {vs : List Value} {tys : Array TypeId} {d : Option Tmp} {ty : TypeId} {pos : String} {after : Array Edge} {g : Option (Nat × Bool)} {w : World} {n : Next} (hf : evO l x = some (.func (.yield ly) #[] #[])) (hx : evs l xs = some vs) (hr : (Instr.yield ly vs.toArray).run P w = .ok n w) :
    (execOp (ev l) ⟨d, .call ⟨.value x, xs.toArray, tys⟩, ty, pos, after, g⟩).run P w = .ok n w := by
  simp only [execOp, resolve, Deferred.ofValue, ev_of hf, List.map_toArray, evs_map hx]
  simp [invoke, hr]
theorem l_yield {d : Nat} {ly : Nat} {x : Operand} {xs : List Operand} {vs : List Value} {tys : Array TypeId} {ty : TypeId} {pos : String} {after : Array Edge} {g : Option (Nat × Bool)} {σ : Type} {Y : σ → Item} {s : σ} {R : Bool → σ → Prop}
    (hg : okG ops l g = true) (hok : okOp N l (.call ⟨.value x, xs.toArray, tys⟩) d = true) (hf : evO l x = some (.func (.yield ly) #[] #[])) (hx : evs l xs = some vs) (hst : (Y s).Stable none') (hy : Yd P ly Y s vs.toArray R)
    (k : ∀ b s', R b s' → HL P ops Q N rest ((d, .bool b) :: l) (Hp w0 F (Y s' :: m))) : HL P ops Q N (⟨some d, .call ⟨.value x, xs.toArray, tys⟩, ty, pos, after, g⟩ :: rest) l (Hp w0 F (Y s :: m)) := by
  unfold HL at *
  obtain ⟨hs, hN, hk⟩ := okOp_spec hok
  intro a w st hw
  unfold wpListIn
  rw [if_pos (okG_spec st hg)]
  refine ⟨fun _ _ => trivial, ?_⟩
  have hin := hw.item (Y s) (by simp)
  obtain ⟨fn, tmps, asg, body, hr, hround⟩ := hy w ⟨hin.1, hst, fun k hk => (hin.2.2 k hk).1⟩
  rw [Oper.semAt_eq _ _ _ (noDef_spec (okOp_def hok)), st.exec _ hs hk, run_yieldop hf hx hr, Oper.uponIn_round]
  have h1 : RoundIn (fw N.r) 0 P ly fn tmps asg body w _ := hround
  refine ⟨fw_room _, h1.mono fun e w' ⟨b, s', he, hR, hi⟩ => ?_⟩
  subst he
  have hw' : Hp w0 F ([Y s'] ++ m) w' := Hp.call (m := [Y s]) hw hi (fun k _ hk => ⟨Y s, by simp, hk⟩)
  exact k b s' hR _ _ (st.put hN _) hw'
end
end Go.Eng
namespace Go.Eng
open Go.RowKit
section
variable {P : Program} {Q : Exit → Act → World → Prop} {N : Fm} {l : Slots} {H : World → Prop} {ops : Array Oper} {rest : List Oper} {w0 : World} {F : Nat → Prop} {m : List Item}
structure Rc where
  fn : FuncId
  tmps : Array Value
  ps : Array Tmp
  assign : Code
  body : Code
  D : Nat
def Rc.at (c : Rc) (st : LoopState) (pe : Option Code) : Obj := .loop { state := st, pending := pe, fn := c.fn, tmps := c.tmps, params := c.ps, assign := c.assign, body := c.body, defers := c.D }
theorem Hp.its1 {W w : World} {Fb : Nat → Prop} {L : List Item} (h : Hp W Fb L w) (hs : ∀ it ∈ L, it.Stable none') : Its Fb W [bundle L] w := by
  refine ⟨h.fr, fun it hm => ?_, .cons (fun _ h => by cases h) .nil⟩
  obtain rfl : it = bundle L := by simpa using hm
  refine ⟨⟨fun it hm => ⟨(h.item it hm).1, hs it hm, fun k hk => ((h.item it hm).2.2 k hk).1⟩, h.apart⟩, bundle_stable L, fun k ⟨it, hm, hk⟩ => (h.item it hm).2.2 k hk⟩
theorem Hp.open1 {w : World} {L m : List Item} (h : Hp w0 F (bundle L :: m) w) : Hp w0 F (L ++ m) w := by
  have hb := h.item (bundle L) (by simp)
  refine ⟨h.fr, fun it hm => ?_, List.pairwise_append.2 ⟨hb.1.2, (List.pairwise_cons.1 h.apart).2, fun x hx y hy k hkx hky => ?_⟩⟩
  · rcases List.mem_append.1 hm with hm | hm
    · obtain ⟨h1, h2, h3⟩ := hb.1.1 it hm
      exact ⟨h1, h2.ro _, fun k hk => hb.2.2 k ⟨it, hm, hk⟩⟩
    · exact h.item it (List.mem_cons_of_mem _ hm)
  · exact (List.pairwise_cons.1 h.apart).1 y hy k ⟨x, hx, hkx⟩ hky
theorem Hp.put {W w : World} {Fb : Nat → Prop} {b : Nat} {o : Obj} (h : Hp W Fb (pt b o :: m) w) (o' : Obj) : Hp W Fb (pt b o' :: m) (w.putObj b o') :=
  h.turn o' (World.putObj_heap_same (Array.getElem?_eq_some_iff.1 (h.get (o := o) (by simp))).1) (fun _ hk => World.putObj_heap_other hk) World.putObj_size rfl rfl rfl
def Kept {σ : Type} (I J : Option Code → σ → Prop) (pe : Option Code) (s : σ) : Prop := match pe with | none => I none s | some c => J (some c) s
def LeftBy (e : Exit) (pe : Option Code) : Prop := match e with | .normal => pe = none | .ret => pe = some .ret | .exit id => pe = some (.exit id) | _ => False
def Turns {σ : Type} (ly : Nat) (rc : Rc) (B : σ → List Item) (I J : Option Code → σ → Prop) (L : List Item) (W : World) : Ending → World → Prop := fun e w' =>
  ∃ (pe : Option Code) (s' : σ), e = .returned (.bool pe.isNone) ∧ Kept I J pe s' ∧ Its (foots L) W [bundle (pt ly (rc.at (if pe.isNone then .ready else .done) pe) :: B s')] w'
theorem x_turn {σ : Type} {ly : Nat} {rc : Rc} {B : σ → List Item} {I J : Option Code → σ → Prop} {L : List Item} {W : World} (e : Exit) (pe : Option Code)
    (he : LeftBy e pe) (s' : σ) (hI : Kept I J pe s') (hs : (B s').Sublist m) (hst : ∀ it ∈ B s', it.Stable none') :
    HX (roundPost P ly (Turns ly rc B I J L W)) e N l (Hp W (foots L) (pt ly (rc.at .busy none) :: m)) := by
  unfold HX
  intro a w st hw
  have hrec := hw.get (b := ly) (o := rc.at .busy none) (by simp)
  have hend := run_endRound (P := P) pe hrec
  have hw2 : Hp W (foots L) (pt ly (rc.at (if pe.isNone then .ready else .done) pe) :: B s') (w.putObj ly (rc.at (if pe.isNone then .ready else .done) pe)) := (hw.put _).sub (.cons_cons _ hs)
  have hT : Turns ly rc B I J L W (.returned (.bool pe.isNone)) (w.putObj ly (rc.at (if pe.isNone then .ready else .done) pe)) :=
    ⟨pe, s', rfl, hI, hw2.its1 fun it hm => (List.mem_cons.1 hm).elim (fun h => h ▸ pt_stable _ _ _) (hst it)⟩
  cases e with
  | normal => subst he; exact ⟨_, _, hend, hT⟩
  | ret => subst he; exact ⟨_, _, hend, hT⟩
  | exit id => subst he; exact ⟨_, _, hend, hT⟩
  | _ => exact he.elim
def asgPost (P : Program) (ly : Nat) (body : Code) (R : Ending → World → Prop) : Exit → Act → World → Prop :=
  Exit.then (fun a₁ w₁ => ∃ w₂, (Instr.beginRound ly).run P w₁ = .ok () w₂ ∧ WP P (some ly) body (roundPost P ly R) a₁ w₂) (fun _ _ _ => False)
theorem x_asg {n : Nat} {ds : List Deferred} {ly : Nat} {rc : Rc} {body : Code} {R : Ending → World → Prop} {W : World} {Fb : Nat → Prop}
    (h : HT P body (roundPost P ly R) ⟨n, ds, some ly⟩ l (Hp W Fb (pt ly (rc.at .busy none) :: m))) : HX (asgPost P ly body R) .normal ⟨n, ds, some ly⟩ l (Hp W Fb (pt ly (rc.at .ready none) :: m)) := by
  unfold HX HT at *
  intro a w st hw
  exact ⟨_, run_beginRound (hw.get (b := ly) (o := rc.at .ready none) (by simp)) rfl, h _ _ st (hw.put _)⟩
def pslots : List (Nat × Value) → Slots → Slots
  | [], l => l
  | p :: r, l => pslots r (p :: l)
theorem St.round {n : Nat} {ly : Option Nat} : ∀ (ps : List (Nat × Value)) {l : Slots} {a : Act}, St ⟨n, [], ly⟩ l a → (∀ p ∈ ps, p.1 < n) → St ⟨n, [], ly⟩ (pslots ps l) { a with tmps := ps.foldl (fun t (p, v) => t.setIfInBounds p v) a.tmps }
  | [], _, _, s, _ => s
  | (p, v) :: r, l, a, s, h => St.round r (a := { a with tmps := a.tmps.setIfInBounds p v }) (s.put (h (p, v) (by simp)) v) (fun q hq => h q (by simp [hq]))
theorem foldZip {β : Type} {f : β → Nat × Value → β} (ps : Array Nat) (vs : List Value) (t : β) : (ps.zip vs.toArray).foldl f t = (ps.toList.zip vs).foldl f t := by
  rw [← Array.foldl_toList]; simp
end
end Go.Eng
namespace Go.Eng
open Go.RowKit
section
variable {P : Program} {Q : Exit → Act → World → Prop} {l : Slots} {w0 : World} {F : Nat → Prop} {m : List Item} {fn : Func} {R : Ending → World → Prop}
/-! ### A function that ranges over a function: its end -/
def bodyM (P : Program) (fn : Func) (R : Ending → World → Prop) : Exit → Act → World → Prop := bodyPostM (fw none) 0 P fn R
def open0 (D : Nat) : Item := pt D (.deferred (some []))
theorem leaves_marks {tmps : Array Value} (h : ∀ w, Hp w0 F m w → LeavesInM (fw none) 0 P fn tmps R [] .returning w) : ∀ (ds : List Nat) (w : World), Hp w0 F (ds.map open0 ++ m) w → LeavesInM (fw none) 0 P fn tmps R (ds.map markAt) .returning w
  | [], w, hw => h w hw
  | D :: ds, w, hw => by
    have hD := hw.get (b := D) (o := .deferred (some [])) (by simp [open0])
    have h1 : Hp w0 F (pt D (.deferred none) :: (ds.map open0 ++ m)) (w.putObj D (.deferred none)) := Hp.put (m := ds.map open0 ++ m) hw _
    exact ⟨by simp, .inl ⟨D, _, rfl, run_takeDeferred hD, leaves_marks h ds _ (h1.sub (List.sublist_cons_self _ _))⟩⟩
theorem x_marks {n : Nat} (ds : List Nat) (h : HX (bodyPost P fn R) .ret ⟨n, [], none⟩ l (Hp w0 F m)) : HX (bodyM P fn R) .ret ⟨n, ds.map markAt, none⟩ l (Hp w0 F (ds.map open0 ++ m)) := by
  unfold HX at *
  intro a w st hw
  have h1 : LeavesInM (fw none) 0 P fn a.tmps R a.defers .returning w := by
    rw [st.defers]
    exact leaves_marks (fun w' hw' => (h { a with defers := [] } w' ⟨st.size, rfl, st.slot⟩ hw').2) ds w hw
  exact h1
theorem x_mark1 {n D : Nat} (h : HX (bodyPost P fn R) .ret ⟨n, [], none⟩ l (Hp w0 F m)) : HX (bodyM P fn R) .ret ⟨n, [markAt D], none⟩ l (Hp w0 F (pt D (.deferred (some [])) :: m)) := x_marks [D] h
theorem st_args {vs : List Value} {n : Nat} (hn : Nat.ble vs.length n = true) : St ⟨n, [], none⟩ (argSlots 0 vs) { tmps := vs.toArray ++ Array.replicate (n - vs.toArray.size) undef, defers := [] } := by
  refine ⟨by simp at hn ⊢; omega, rfl, fun t v hv => ?_⟩
  obtain ⟨-, h2⟩ := get_argSlots vs 0 t v hv
  simp only [Nat.sub_zero] at h2
  have hlt : t < vs.length := (List.getElem?_eq_some_iff.1 h2).1
  rw [Array.getElem?_append_left (by simpa using hlt)]
  simpa using h2
theorem callsM_of {f : FuncId} {c : Code} {vs : List Value} {w₀ : World} (hf : P.funcs[f]? = some fn) (hb : fn.body = some c) (hn : Nat.ble vs.length fn.ntmps = true) (H : World → Prop) (hH : H w₀)
    (h : HT P c (bodyM P fn R) ⟨fn.ntmps, [], none⟩ (argSlots 0 vs) H) : Calls P f vs.toArray w₀ R := by
  unfold HT at h
  exact (callsIn_wide (n := 0)).1 (callsIn_of_wp_marks hf hb trivial (h _ _ (st_args hn) hH) rfl)
theorem cu_of {f : FuncId} {c : Code} (vs : List Value) (pre : List Item) {α : Type} {val : α → Value} {φ : α → Prop} {its : α → List Item} (hf : P.funcs[f]? = some fn) (hb : fn.body = some c) (hn : Nat.ble vs.length fn.ntmps = true)
    (hp : ∀ it ∈ pre, Here it w0) (ha : pre.Pairwise Item.Apart)
    (h : HT P c (bodyPost P fn (ctPost w0 (foots pre) val φ its)) ⟨fn.ntmps, [], none⟩ (argSlots 0 vs) (Hp w0 (foots pre) pre)) : Ct P f vs.toArray w0 (foots pre) val φ its := by
  unfold Ct; exact calls_of hf hb hn (Hp w0 (foots pre) pre) (.begin hp ha _ fun _ h => h) h
theorem o_cu {Q : Exit → Act → World → Prop} {N : Fm} {d : Nat} {f : FuncId} {xs : List Operand} {tys : Array TypeId} {vs : List Value} {ty : TypeId} {pos : String} {after : Array Edge} {g : Option (Nat × Bool)} {pre : List Item} {α : Type} {val : α → Value} {φ : α → Prop} {its : α → List Item}
    (hok : okOp N l (.call ⟨.value (.func f), xs.toArray, tys⟩) d = true) (hb : hasBody P f = true) (hx : evs l xs = some vs) (hst : ∀ it ∈ pre, it.Stable none')
    (hc : ∀ w, Hp w0 F (pre ++ m) w → (∀ it ∈ pre, Here it w) → pre.Pairwise Item.Apart → Ct P f vs.toArray w (foots pre) val φ its) :
    HO P ⟨some d, .call ⟨.value (.func f), xs.toArray, tys⟩, ty, pos, after, g⟩ Q N l (Hp w0 F (pre ++ m)) (α := { x : α // φ x }) (fun x => (d, val x.1) :: l) (fun x => Hp w0 F (its x.1 ++ m)) :=
  o_call (val := fun x : { x : α // φ x } => val x.1) hok (enters hb hx) (fun w hw => (Ct.calls (hc w hw (fun it hm => have h := hw.item it (List.mem_append_left _ hm); ⟨h.1, hst it hm, fun k hk => (h.2.2 k hk).1⟩) (List.pairwise_append.1 hw.apart).1)).mono fun _ _ ⟨x, he, hx, hi⟩ => ⟨⟨x, hx⟩, he, hw.call hi fun _ _ ⟨it, hm, hk⟩ => ⟨it, hm, hk⟩⟩)
end
end Go.Eng
namespace Go.Eng
open Go.RowKit
theorem v_mkf {P : Program} {l : Slots} {H : World → Prop} {ty : TypeId} {f : FuncId} {xs : List Operand} {vs : List Value} (hx : evs l xs = some vs) : OV P (.makeFunc (.func f) #[] xs.toArray) ty l H (.func (.func f) #[] vs.toArray) := ov fun d pos after w _ => by
  simp only [execOp, List.map_toArray, evs_map hx]
  simp [Instr.makeFunc]
  try rfl
end Go.Eng

namespace Go.Eng
open Go.RowKit
variable {P : Program} {Q : Exit → Act → World → Prop} {N : Fm} {l : Slots} {H : World → Prop} {ops : Array Oper} {rest : List Oper} {w0 : World} {F : Nat → Prop} {m : List Item} {ty : TypeId} {pos : String} {after : Array Edge} {g : Option (Nat × Bool)} {d : Nat}
/-! ### slicing of strings -/
theorem v_slstrF {T : TypeId} {x y : Operand} {s : ByteArray} {k : IntKind} {i : Nat} (hx : evO l x = some (.string s)) (hy : evO l y = some (.int k i)) (hT : P.underlying T = some .string) (hi : i ≤ s.size) : OV P (.slice T x (some y) none none) ty l H (.string (s.extract i s.size)) := ov fun _ _ _ w _ => by
  have h := run_slice_string_l (P := P) w T s hT k i (by omega) (by omega)
  simp only [execOp, ev_of hx, Option.map_some, Option.map_none, ev_of hy, Sem.run_bind, run_sliceAt_string w T _ _ _ _ hT, h, Int.toNat_natCast]
  rfl
theorem v_slstrT {T : TypeId} {x y : Operand} {s : ByteArray} {k : IntKind} {i : Nat} (hx : evO l x = some (.string s)) (hy : evO l y = some (.int k i)) (hT : P.underlying T = some .string) (hi : i ≤ s.size) : OV P (.slice T x none (some y) none) ty l H (.string (s.extract 0 i)) := ov fun _ _ _ w _ => by
  have h := run_slice_string_h (P := P) w T s hT k i (by omega) (by omega)
  simp only [execOp, ev_of hx, Option.map_some, Option.map_none, ev_of hy, Sem.run_bind, run_sliceAt_string w T _ _ _ _ hT, h, Int.toNat_natCast]
  rfl
theorem v_slstr {T : TypeId} {x y z : Operand} {s : ByteArray} {k k' : IntKind} {i j : Nat} (hx : evO l x = some (.string s)) (hy : evO l y = some (.int k i)) (hz : evO l z = some (.int k' j)) (hT : P.underlying T = some .string) (hi : i ≤ j) (hj : j ≤ s.size) : OV P (.slice T x (some y) (some z) none) ty l H (.string (s.extract i j)) := ov fun _ _ _ w _ => by
  have h := run_slice_string (P := P) w T s k k' i j hT (by omega) (by omega) (by omega)
  simp only [execOp, ev_of hx, Option.map_some, Option.map_none, ev_of hy, ev_of hz, Sem.run_bind, run_sliceAt_string w T _ _ _ _ hT, h, Int.toNat_natCast]
  rfl
theorem v_slstrTC {T : TypeId} {x y : Operand} {s : ByteArray} {k : IntKind} {i : Nat} (hx : evO l x = some (.string s)) (hy : evO l y = some (.int k (@OfNat.ofNat Int i _))) (hT : P.underlying T = some .string) (hi : (@OfNat.ofNat Nat i _) ≤ s.size) : OV P (.slice T x none (some y) none) ty l H (.string (s.extract 0 (@OfNat.ofNat Nat i _))) := v_slstrT hx hy hT hi
/-! ### '==' and '!=' of strings -/
theorem ba_ext {a b : ByteArray} (h : a.data.toList = b.data.toList) : a = b := by
  cases a; cases b; congr; exact Array.toList_inj.1 h
theorem bytes_beq (a b : ByteArray) : (a.toList == b.toList) = decide (a = b) := by
  rw [ByteArray.toList_eq, ByteArray.toList_eq, Bool.eq_iff_iff]
  simp only [beq_iff_eq, decide_eq_true_eq]
  exact ⟨ba_ext, fun h => by rw [h]⟩
def seq (a b : ByteArray) : Bool := decide (a = b)
theorem seq_eq (a b : ByteArray) : decide (a = b) = seq a b := rfl
theorem seq_iff {a b : ByteArray} : seq a b = true ↔ a = b := by simp [seq]
theorem seq_list (a b : ByteArray) : seq a b = (a.data.toList == b.data.toList) := by
  rw [← seq_eq, ← bytes_beq, ByteArray.toList_eq, ByteArray.toList_eq]
theorem v_eqs {T U : TypeId} {x y : Operand} {a b : ByteArray} (hx : evO l x = some (.string a)) (hy : evO l y = some (.string b)) : OV P (.binOp .eql T x y U) ty l H (.bool (seq a b)) := by
  rw [← seq_eq, ← bytes_beq]
  exact v_bin hx hy fun _ => rfl
/-! ### slicing of slices -/
def slAt (a : Option Addr) (room : Bool) (k : Nat) : Option Addr := if room then a else a.map (·.add k)
theorem v_slF {T e : TypeId} {x y : Operand} {a : Option Addr} {n c sz : Nat} {k : IntKind} {i : Nat} (hx : evO l x = some (.slice a n c)) (hy : evO l y = some (.int k i)) (hT : sliE P T = some e) (he : cellsT P e = some sz) (hi : i ≤ n) : OV P (.slice T x (some y) none none) ty l H (.slice (slAt a (decide (c = i)) (i * sz)) (n - i) (c - i)) := ov fun _ _ _ w _ => by
  have hu := sliE_spec hT
  have hu' : P.underlying T = some (.slice (P.elem T)) := by rw [hu]; simp [Program.elem, hu]
  have he' : P.elem T = e := by simp [Program.elem, hu]
  obtain ⟨q, hq, hqs⟩ := cellsT_spec he
  have h := run_slice_l (P := P) w T a n c hu' k i (by omega) (by omega)
  have hz : (sizeOf (P.elem T)).run P w = .ok sz w := by rw [he']; simp [sizeOf, typeInfo, hq, hqs]
  simp only [execOp, ev_of hx, Option.map_some, Option.map_none, ev_of hy, Sem.run_bind, run_sliceAt_slice w T _ _ _ _ hu', h, hz, Result.andThen_ok, Int.toNat_natCast, sliced, slAt]
  simp [Sem.run_pure]
/-! ### texts as lists of bytes -/
theorem drop_extract (s : ByteArray) (i : Nat) : (s.extract i s.size).data.toList = s.data.toList.drop i := by
  simp [ByteArray.data_extract, Array.toList_extract, List.take_of_length_le]
theorem ba_size (a : ByteArray) : a.data.toList.length = a.size := by simp
attribute [irreducible] seq
end Go.Eng
