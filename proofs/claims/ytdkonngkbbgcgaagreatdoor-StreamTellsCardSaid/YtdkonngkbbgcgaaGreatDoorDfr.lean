/- Deferred calls: one is laid by, and made at the end. Own work; no condition. -/
import Derived.Test.YtdkonngkbbgcgaaGreatDoorGb
import Derived.Recover
namespace Go.Eng
open Go.RowKit
variable {P : Program} {Q : Exit → Act → World → Prop} {l : Slots} {H : World → Prop} {ops : Array Oper} {rest : List Oper} {w0 : World} {F : Nat → Prop} {m : List Item}
theorem l_defer {n : Nat} {ds : List Deferred} {f : FuncId} {xs : List Operand} {vs : List Value} {tys : Array TypeId} {ty : TypeId} {pos : String} {after : Array Edge} (hk : known l (.defer ⟨.value (.func f), xs.toArray, tys⟩) = true) (hx : evs l xs = some vs)
    (k : HL P ops Q ⟨n, { target := .fn (.func f) #[], args := vs.toArray } :: ds, none⟩ rest l H) : HL P ops Q ⟨n, ds, none⟩ (⟨none, .defer ⟨.value (.func f), xs.toArray, tys⟩, ty, pos, after, none⟩ :: rest) l H := by
  unfold HL at *
  refine fun a w s hw => wpListIn_plain rfl fun K hK => ⟨fun _ _ => trivial, ?_⟩
  have hrun : (execOp a.eval ⟨none, .defer ⟨.value (.func f), xs.toArray, tys⟩, ty, pos, after, none⟩).run P w = .ok (.defer { target := .fn (.func f) #[], args := vs.toArray }) w := by
    rw [s.exec _ (fun _ _ h => by cases h) hk]
    simp only [execOp, resolve, Deferred.ofValue, ev, List.map_toArray, evs_map hx]
    simp
  show Oper.uponIn _ _ _ _ _ _ _ ((Oper.semAt none a.eval _).run P w)
  rw [Oper.semAt_none, hrun, Oper.uponIn_defer]
  exact hK _ _ (k _ _ ⟨s.size, by show _ :: a.defers = _; rw [s.defers], s.slot⟩ hw)
theorem callsD_of {f : FuncId} {fn : Func} {c : Code} {vs : List Value} {w₀ : World} {R : Ending → World → Prop} (hf : P.funcs[f]? = some fn) (hb : fn.body = some c) (hn : Nat.ble vs.length fn.ntmps = true) (H : World → Prop) (hH : H w₀)
    (h : HT P c (bodyPostD P fn R) ⟨fn.ntmps, [], none⟩ (argSlots 0 vs) H) : Calls P f vs.toArray w₀ R := by
  unfold HT at h
  exact calls_of_wp_defers hf hb (WP.wp (h _ _ (st_args hn) hH))
theorem ctD_of {f : FuncId} {fn : Func} {c : Code} (vs : List Value) {α : Type} {val : α → Value} {φ : α → Prop} {its : α → List Item} (hf : P.funcs[f]? = some fn) (hb : fn.body = some c) (hn : Nat.ble vs.length fn.ntmps = true)
    (h : HT P c (bodyPostD P fn (ctPost w0 F val φ its)) ⟨fn.ntmps, [], none⟩ (argSlots 0 vs) (Hp w0 F [])) : Ct P f vs.toArray w0 F val φ its := by
  unfold Ct; exact callsD_of hf hb hn (Hp w0 F []) (.start _ _) h
theorem x_door {n : Nat} {fn : Func} {R : Ending → World → Prop} {f : FuncId} {vs : List Value} (hb : hasBody P f = true) (hd : ∀ w, Hp w0 F m w → CallsD P f vs.toArray .returning w fun e u' w' => u' = .returning ∧ (∃ v, e = .returned v) ∧ Fr none' w w')
    (h : HX (bodyPost P fn R) .ret ⟨n, [], none⟩ l (Hp w0 F m)) : HX (bodyPostD P fn R) .ret ⟨n, [{ target := .fn (.func f) #[], args := vs.toArray }], none⟩ l (Hp w0 F m) := by
  unfold HX at *
  intro a w s hw
  show Leaves P fn a.tmps R a.defers .returning w
  rw [s.defers]
  refine leaves_cons (f := f) (args := vs.toArray) (by simp) (by simp [invoke, callFunc_enter hb]) (CallsD.mono (hd w hw) ?_)
  rintro e u' w' ⟨rfl, ⟨v, rfl⟩, hf⟩
  have hq := (h { a with defers := [] } w' ⟨s.size, rfl, s.slot⟩ (hw.keep hf)).2
  exact hq
end Go.Eng
