/- Ranges over a function: the round, the statement, the function that holds one; the iterator. Own work; no condition. -/
/- Rows of many cells an element: loads, stores, copies, makes; memory that is read alone (ghost heaps). Own work over the guide's laws; no condition. -/
import Derived.Test.YtkkfifhaobjicaaGreatDoorHb01
import Derived.RangeFuncSeq
import Derived.RangeFuncRecord
import Derived.RangeFuncLeaves
import Derived.Test.YtkkfifhaobjicaaGreatDoorHb03
import Derived.Laws.CopyRow
set_option maxRecDepth 100000
namespace Go.Eng
open Go.RowKit
section
variable {P : Program} {Q : Exit → Act → World → Prop} {N : Fm} {l : zat} {H : World → Prop} {ops : Array Oper} {rest : List Oper} {w0 : World} {F : Nat → Prop} {m : List Item}
/-! ### Items at a callee's beginning -/
def zap (L : List Item) : Nat → Prop := fun k => ∃ it ∈ L, it.foot k
def za2 (it : Item) (w : World) : Prop := it.prop w ∧ it.Stable none' ∧ ∀ k, it.foot k → k < w.heap.size
theorem Item.Stable.ro {it : Item} (h : it.Stable none') (ro : Nat → Prop) : it.Stable ro := fun w w' hk hp => h w w' (fun k hk' => hk k (.inr (hk'.resolve_left fun f => f.elim))) hp
theorem Hp.begin {w : World} {L : List Item} (h : ∀ it ∈ L, za2 it w) (ha : L.Pairwise Item.Apart) (F : Nat → Prop) (hF : ∀ k, zap L k → F k) : Hp w F L w :=
 ⟨.refl _ _, fun it hm => ⟨(h it hm).1, (h it hm).2.1.ro _, fun k hk => ⟨(h it hm).2.2 k hk, fun _ => hF k ⟨it, hm, hk⟩⟩⟩, ha⟩
def zgu (L : List Item) : Item := ⟨zap L, fun w => (∀ it ∈ L, za2 it w) ∧ L.Pairwise Item.Apart⟩
theorem zki {L : List Item} {w : World} (h : ∀ it ∈ L, za2 it w) (ha : L.Pairwise Item.Apart) : za2 (zgu L) w := by
 refine ⟨⟨h, ha⟩, fun w1 w2 hk hp => ⟨fun it hm => ?_, hp.2⟩, fun k ⟨it, hm, hk⟩ => (h it hm).2.2 k hk⟩
 obtain ⟨h1, h2, h3⟩ := hp.1 it hm
 have he : ∀ k, it.foot k → w2.heap[k]? = w1.heap[k]? := fun k hf => hk k (.inr ⟨it, hm, hf⟩)
 refine ⟨h2 w1 w2 (fun k hf => he k (hf.resolve_left fun f => f.elim)) h1, h2, fun k hf => ?_⟩
 have := he k hf
 have h4 := h3 k hf
 rw [Array.getElem?_eq_getElem h4] at this
 exact (Array.getElem?_eq_some_iff.1 this).1
theorem zad (L : List Item) : (zgu L).Stable none' := fun w1 w2 hk hp => by
 have h := zki hp.1 hp.2
 exact h.2.1 w1 w2 hk hp
def Yd (P : Program) (ly : Nat) {σ : Type} (Y : σ → Item) (s : σ) (args : Array Value) (R : Bool → σ → Prop) : Prop :=
 ∀ w, za2 (Y s) w → YieldAt Fence.wide 0 P ly args w fun e w' => ∃ b s', e = .returned (.bool b) ∧ R b s' ∧ Its (Y s).foot w [Y s'] w'
theorem zoq {ly : Nat} {x : Operand} {xs : List Operand} {vs : List Value} {tys : Array TypeId} {d : Option Tmp} {ty : TypeId} {pos : String} {after : Array Edge} {g : Option (Nat × Bool)} {w : World} {n : Next} (hf : evO l x = some (.func (.yield ly) #[] #[])) (hx : evs l xs = some vs) (hr : (Instr.yield ly vs.toArray).run P w = .ok n w) :
  (execOp (ev l) ⟨d, .call ⟨.value x, xs.toArray, tys⟩, ty, pos, after, g⟩).run P w = .ok n w := by
 simp only [execOp, resolve, Deferred.ofValue, zax hf, List.map_toArray, zhz hx]
 simp [invoke, hr]
theorem qc4 {d : Nat} {ly : Nat} {x : Operand} {xs : List Operand} {vs : List Value} {tys : Array TypeId} {ty : TypeId} {pos : String} {after : Array Edge} {g : Option (Nat × Bool)} {σ : Type} {Y : σ → Item} {s : σ} {R : Bool → σ → Prop}
  (hg : okG ops l g = true) (hok : zfj N l (.call ⟨.value x, xs.toArray, tys⟩) d = true) (hf : evO l x = some (.func (.yield ly) #[] #[])) (hx : evs l xs = some vs) (hst : (Y s).Stable none') (hy : Yd P ly Y s vs.toArray R)
  (k : ∀ b s', R b s' → HL P ops Q N rest ((d, .bool b) :: l) (Hp w0 F (Y s' :: m))) : HL P ops Q N (⟨some d, .call ⟨.value x, xs.toArray, tys⟩, ty, pos, after, g⟩ :: rest) l (Hp w0 F (Y s :: m)) := by
 unfold HL at *
 obtain ⟨hs, hN, hk⟩ := zeq hok
 intro a w st hw
 unfold wpListIn
 rw [if_pos (zi4 st hg)]
 refine ⟨fun _ _ => trivial, ?_⟩
 have hin := hw.item (Y s) (by simp)
 obtain ⟨fn, tmps, asg, body, hr, hround⟩ := hy w ⟨hin.1, hst, fun k hk => (hin.2.2 k hk).1⟩
 rw [Oper.semAt_eq _ _ _ (zly (zk1 hok)), st.exec _ hs hk, zoq hf hx hr, Oper.uponIn_round]
 have h1 : RoundIn (fw N.r) 0 P ly fn tmps asg body w _ := hround
 refine ⟨zjw _, h1.mono fun e w' ⟨b, s', he, hR, hi⟩ => ?_⟩
 subst he
 have hw' : Hp w0 F ([Y s'] ++ m) w' := Hp.call (m := [Y s]) hw hi (fun k _ hk => ⟨Y s, by simp, hk⟩)
 exact k b s' hR _ _ (st.put hN _) hw'
end
section
variable {P : Program} {Q : Exit → Act → World → Prop} {N : Fm} {l : zat} {H : World → Prop} {ops : Array Oper} {rest : List Oper} {w0 : World} {F : Nat → Prop} {m : List Item}
structure Rc where
 fn : FuncId
 tmps : Array Value
 ps : Array Tmp
 assign : Code
 body : Code
 D : Nat
def Rc.at (c : Rc) (st : LoopState) (pe : Option Code) : Obj := .loop { state := st, pending := pe, fn := c.fn, tmps := c.tmps, params := c.ps, assign := c.assign, body := c.body, defers := c.D }
theorem Hp.its1 {W w : World} {Fb : Nat → Prop} {L : List Item} (h : Hp W Fb L w) (hs : ∀ it ∈ L, it.Stable none') : Its Fb W [zgu L] w := by
 refine ⟨h.fr, fun it hm => ?_, .cons (fun _ h => by cases h) .nil⟩
 obtain rfl : it = zgu L := by simpa using hm
 refine ⟨⟨fun it hm => ⟨(h.item it hm).1, hs it hm, fun k hk => ((h.item it hm).2.2 k hk).1⟩, h.apart⟩, zad L, fun k ⟨it, hm, hk⟩ => (h.item it hm).2.2 k hk⟩
theorem Hp.open1 {w : World} {L m : List Item} (h : Hp w0 F (zgu L :: m) w) : Hp w0 F (L ++ m) w := by
 have hb := h.item (zgu L) (by simp)
 refine ⟨h.fr, fun it hm => ?_, List.pairwise_append.2 ⟨hb.1.2, (List.pairwise_cons.1 h.apart).2, fun x hx y hy k hkx hky => ?_⟩⟩
 ·rcases List.mem_append.1 hm with hm | hm
  ·obtain ⟨h1, h2, h3⟩ := hb.1.1 it hm
   exact ⟨h1, h2.ro _, fun k hk => hb.2.2 k ⟨it, hm, hk⟩⟩
  ·exact h.item it (List.mem_cons_of_mem _ hm)
 ·exact (List.pairwise_cons.1 h.apart).1 y hy k ⟨x, hx, hkx⟩ hky
theorem Hp.put {W w : World} {Fb : Nat → Prop} {b : Nat} {o : Obj} (h : Hp W Fb (pt b o :: m) w) (o' : Obj) : Hp W Fb (pt b o' :: m) (w.putObj b o') :=
 h.turn o' (World.putObj_heap_same (Array.getElem?_eq_some_iff.1 (h.get (o := o) (by simp))).1) (fun _ hk => World.putObj_heap_other hk) World.putObj_size rfl rfl rfl
def qqs {σ : Type} (I J : Option Code → σ → Prop) (pe : Option Code) (s : σ) : Prop := match pe with | none => I none s | some c => J (some c) s
def qo5 (e : Exit) (pe : Option Code) : Prop := match e with | .normal => pe = none | .ret => pe = some .ret | .exit id => pe = some (.exit id) | _ => False
def qiq {σ : Type} (ly : Nat) (rc : Rc) (B : σ → List Item) (I J : Option Code → σ → Prop) (L : List Item) (W : World) : Ending → World → Prop := fun e w' =>
 ∃ (pe : Option Code) (s' : σ), e = .returned (.bool pe.isNone) ∧ qqs I J pe s' ∧ Its (zap L) W [zgu (pt ly (rc.at (if pe.isNone then .ready else .done) pe) :: B s')] w'
theorem zng {σ : Type} {ly : Nat} {rc : Rc} {B : σ → List Item} {I J : Option Code → σ → Prop} {L : List Item} {W : World} (e : Exit) (pe : Option Code)
  (he : qo5 e pe) (s' : σ) (hI : qqs I J pe s') (hs : (B s').Sublist m) (hst : ∀ it ∈ B s', it.Stable none') :
  HX (roundPost P ly (qiq ly rc B I J L W)) e N l (Hp W (zap L) (pt ly (rc.at .busy none) :: m)) := by
 unfold HX
 intro a w st hw
 have hrec := hw.get (b := ly) (o := rc.at .busy none) (by simp)
 have hend := run_endRound (P := P) pe hrec
 have hw2 : Hp W (zap L) (pt ly (rc.at (if pe.isNone then .ready else .done) pe) :: B s') (w.putObj ly (rc.at (if pe.isNone then .ready else .done) pe)) := (hw.put _).sub (.cons_cons _ hs)
 have hT : qiq ly rc B I J L W (.returned (.bool pe.isNone)) (w.putObj ly (rc.at (if pe.isNone then .ready else .done) pe)) :=
  ⟨pe, s', rfl, hI, hw2.its1 fun it hm => (List.mem_cons.1 hm).elim (fun h => h ▸ zac _ _ _) (hst it)⟩
 cases e with
 | normal => subst he; exact ⟨_, _, hend, hT⟩
 | ret => subst he; exact ⟨_, _, hend, hT⟩
 | exit id => subst he; exact ⟨_, _, hend, hT⟩
 | _ => exact he.elim
def zxa (P : Program) (ly : Nat) (body : Code) (R : Ending → World → Prop) : Exit → Act → World → Prop :=
 Exit.then (fun a₁ w₁ => ∃ w₂, (Instr.beginRound ly).run P w₁ = .ok () w₂ ∧ WP P (some ly) body (roundPost P ly R) a₁ w₂) (fun _ _ _ => False)
theorem qi0 {n : Nat} {ds : List Deferred} {ly : Nat} {rc : Rc} {body : Code} {R : Ending → World → Prop} {W : World} {Fb : Nat → Prop}
  (h : HT P body (roundPost P ly R) ⟨n, ds, some ly⟩ l (Hp W Fb (pt ly (rc.at .busy none) :: m))) : HX (zxa P ly body R) .normal ⟨n, ds, some ly⟩ l (Hp W Fb (pt ly (rc.at .ready none) :: m)) := by
 unfold HX HT at *
 intro a w st hw
 exact ⟨_, run_beginRound (hw.get (b := ly) (o := rc.at .ready none) (by simp)) rfl, h _ _ st (hw.put _)⟩
def zm7 : List (Nat × Value) → zat → zat
 | [], l => l
 | p :: r, l => zm7 r (p :: l)
theorem St.round {n : Nat} {ly : Option Nat} : ∀ (ps : List (Nat × Value)) {l : zat} {a : Act}, St ⟨n, [], ly⟩ l a → (∀ p ∈ ps, p.1 < n) → St ⟨n, [], ly⟩ (zm7 ps l) { a with tmps := ps.foldl (fun t (p, v) => t.setIfInBounds p v) a.tmps }
 | [], _, _, s, _ => s
 | (p, v) :: r, l, a, s, h => St.round r (a := { a with tmps := a.tmps.setIfInBounds p v }) (s.put (h (p, v) (by simp)) v) (fun q hq => h q (by simp [hq]))
theorem qdr {β : Type} {f : β → Nat × Value → β} (ps : Array Nat) (vs : List Value) (t : β) : (ps.zip vs.toArray).foldl f t = (ps.toList.zip vs).foldl f t := by
 rw [← Array.foldl_toList]; simp
end
section
variable {P : Program} {Q : Exit → Act → World → Prop} {l : zat} {w0 : World} {F : Nat → Prop} {m : List Item} {fn : Func} {R : Ending → World → Prop}
/-! ### A function that ranges over a function: its end -/
def zoj (P : Program) (fn : Func) (R : Ending → World → Prop) : Exit → Act → World → Prop := bodyPostM (fw none) 0 P fn R
def zqh (D : Nat) : Item := pt D (.deferred (some []))
theorem ziy {tmps : Array Value} (h : ∀ w, Hp w0 F m w → LeavesInM (fw none) 0 P fn tmps R [] .returning w) : ∀ (ds : List Nat) (w : World), Hp w0 F (ds.map zqh ++ m) w → LeavesInM (fw none) 0 P fn tmps R (ds.map zej) .returning w
 | [], w, hw => h w hw
 | D :: ds, w, hw => by
  have hD := hw.get (b := D) (o := .deferred (some [])) (by simp [zqh])
  have h1 : Hp w0 F (pt D (.deferred none) :: (ds.map zqh ++ m)) (w.putObj D (.deferred none)) := Hp.put (m := ds.map zqh ++ m) hw _
  exact ⟨by simp, .inl ⟨D, _, rfl, run_takeDeferred hD, ziy h ds _ (h1.sub (List.sublist_cons_self _ _))⟩⟩
theorem zyf {n : Nat} (ds : List Nat) (h : HX (bodyPost P fn R) .ret ⟨n, [], none⟩ l (Hp w0 F m)) : HX (zoj P fn R) .ret ⟨n, ds.map zej, none⟩ l (Hp w0 F (ds.map zqh ++ m)) := by
 unfold HX at *
 intro a w st hw
 have h1 : LeavesInM (fw none) 0 P fn a.tmps R a.defers .returning w := by
  rw [st.defers]
  exact ziy (fun w' hw' => (h { a with defers := [] } w' ⟨st.size, rfl, st.slot⟩ hw').2) ds w hw
 exact h1
theorem qh1 {n : Nat} (ds : List Nat) (h : HX (bodyPost P fn R) .normal ⟨n, [], none⟩ l (Hp w0 F m)) : HX (zoj P fn R) .normal ⟨n, ds.map zej, none⟩ l (Hp w0 F (ds.map zqh ++ m)) := by
 unfold HX at *
 intro a w st hw
 have h1 : LeavesInM (fw none) 0 P fn a.tmps R a.defers .returning w := by
  rw [st.defers]
  exact ziy (fun w' hw' => (h { a with defers := [] } w' ⟨st.size, rfl, st.slot⟩ hw').2) ds w hw
 exact h1
theorem zi2 {n : Nat} (h : HX (bodyPost P fn R) .ret ⟨n, [], none⟩ l (Hp w0 F m)) : HX (zoj P fn R) .ret ⟨n, [], none⟩ l (Hp w0 F m) := zyf [] h
theorem qlp {n D : Nat} (h : HX (bodyPost P fn R) .ret ⟨n, [], none⟩ l (Hp w0 F m)) : HX (zoj P fn R) .ret ⟨n, [zej D], none⟩ l (Hp w0 F (pt D (.deferred (some [])) :: m)) := zyf [D] h
theorem qfm {vs : List Value} {n : Nat} (hn : Nat.ble vs.length n = true) : St ⟨n, [], none⟩ (zaa 0 vs) { tmps := vs.toArray ++ Array.replicate (n - vs.toArray.size) undef, defers := [] } := by
 refine ⟨by simp at hn ⊢; omega, rfl, fun t v hv => ?_⟩
 obtain ⟨-, h2⟩ := znc vs 0 t v hv
 simp only [Nat.sub_zero] at h2
 have hlt : t < vs.length := (List.getElem?_eq_some_iff.1 h2).1
 rw [Array.getElem?_append_left (by simpa using hlt)]
 simpa using h2
theorem zv7 {f : FuncId} {c : Code} {vs : List Value} {w₀ : World} (hf : P.funcs[f]? = some fn) (hb : fn.body = some c) (hn : Nat.ble vs.length fn.ntmps = true) (H : World → Prop) (hH : H w₀)
  (h : HT P c (zoj P fn R) ⟨fn.ntmps, [], none⟩ (zaa 0 vs) H) : Calls P f vs.toArray w₀ R := by
 unfold HT at h
 exact (callsIn_wide (n := 0)).1 (callsIn_of_wp_marks hf hb trivial (h _ _ (qfm hn) hH) rfl)
theorem zbd {f : FuncId} {c : Code} (vs : List Value) (pre : List Item) {α : Type} {val : α → Value} {φ : α → Prop} {its : α → List Item} (hf : P.funcs[f]? = some fn) (hb : fn.body = some c) (hn : Nat.ble vs.length fn.ntmps = true)
  (hp : ∀ it ∈ pre, za2 it w0) (ha : pre.Pairwise Item.Apart)
  (h : HT P c (bodyPost P fn (zkv w0 (zap pre) val φ its)) ⟨fn.ntmps, [], none⟩ (zaa 0 vs) (Hp w0 (zap pre) pre)) : Ct P f vs.toArray w0 (zap pre) val φ its := by
 unfold Ct; exact zn4 hf hb hn (Hp w0 (zap pre) pre) (.begin hp ha _ fun _ h => h) h
theorem zba {Q : Exit → Act → World → Prop} {N : Fm} {d : Nat} {f : FuncId} {xs : List Operand} {tys : Array TypeId} {vs : List Value} {ty : TypeId} {pos : String} {after : Array Edge} {g : Option (Nat × Bool)} {pre : List Item} {α : Type} {val : α → Value} {φ : α → Prop} {its : α → List Item}
  (hok : zfj N l (.call ⟨.value (.func f), xs.toArray, tys⟩) d = true) (hb : zb9 P f = true) (hx : evs l xs = some vs) (hst : ∀ it ∈ pre, it.Stable none')
  (hc : ∀ w, Hp w0 F (pre ++ m) w → (∀ it ∈ pre, za2 it w) → pre.Pairwise Item.Apart → Ct P f vs.toArray w (zap pre) val φ its) :
  HO P ⟨some d, .call ⟨.value (.func f), xs.toArray, tys⟩, ty, pos, after, g⟩ Q N l (Hp w0 F (pre ++ m)) (α := { x : α // φ x }) (fun x => (d, val x.1) :: l) (fun x => Hp w0 F (its x.1 ++ m)) :=
 zry (val := fun x : { x : α // φ x } => val x.1) hok (qgx hb hx) (fun w hw => (Ct.calls (hc w hw (fun it hm => have h := hw.item it (List.mem_append_left _ hm); ⟨h.1, hst it hm, fun k hk => (h.2.2 k hk).1⟩) (List.pairwise_append.1 hw.apart).1)).mono fun _ _ ⟨x, he, hx, hi⟩ => ⟨⟨x, hx⟩, he, hw.call hi fun _ _ ⟨it, hm, hk⟩ => ⟨it, hm, hk⟩⟩)
end
theorem znm {P : Program} {l : zat} {H : World → Prop} {ty : TypeId} {f : FuncId} {xs : List Operand} {vs : List Value} (hx : evs l xs = some vs) : OV P (.makeFunc (.func f) #[] xs.toArray) ty l H (.func (.func f) #[] vs.toArray) := ov fun d pos after w _ => by
 simp only [execOp, List.map_toArray, zhz hx]
 simp [Instr.makeFunc]
 try rfl
theorem za8 {P : Program} {w0 : World} {F : Nat → Prop} {m : List Item} {T : TypeId} {b : Nat} {v : Value} {E : TypeId} {fz : Nat × Nat} (hT : zot P T = true) (hm : pt b (.cells #[v] E fz) ∈ m) : ∀ w, Hp w0 F m w → (loadVar T ⟨b, 0, none⟩).run P w = .ok v w := fun w hw => by
 have := zui (P := P) hT (zdx (i := 0) (hw.get hm) (v := v) rfl)
 simpa [Instr.loadAt, Instr.sureAddr] using this
variable {P : Program} {Q : Exit → Act → World → Prop} {N : Fm} {l : zat} {H : World → Prop} {ops : Array Oper} {rest : List Oper} {w0 : World} {F : Nat → Prop} {m : List Item} {ty : TypeId} {pos : String} {after : Array Edge} {g : Option (Nat × Bool)} {d : Nat}
/-! ### elements of several cells -/
def zc3 {α : Type} (enc : α → List Value) (L : List α) : List Value := L.flatMap enc
section
variable {α : Type} {enc : α → List Value} {sz : Nat}
theorem zm9 (hsz : ∀ a, (enc a).length = sz) (L : List α) : (zc3 enc L).length = L.length * sz := by
 induction L with
 | nil => simp [zc3]
 | cons a L ih => simp only [zc3, List.flatMap_cons, List.length_append, List.length_cons] at ih ⊢; rw [ih, hsz, Nat.add_mul, Nat.one_mul, Nat.add_comm]
theorem zit (L M : List α) : zc3 enc (L ++ M) = zc3 enc L ++ zc3 enc M := by simp [zc3]
theorem qev (a : α) : zc3 enc [a] = enc a := by simp [zc3]
theorem zgc (a : α) (L : List α) : zc3 enc (a :: L) = enc a ++ zc3 enc L := by simp [zc3]
theorem qbt (hsz : ∀ a, (enc a).length = sz) (L : List α) (i : Nat) : zc3 enc (L.drop i) = (zc3 enc L).drop (i * sz) := by
 induction L generalizing i with
 | nil => simp [zc3]
 | cons a L ih =>
  cases i with
  | zero => simp [zc3]
  | succ i =>
   have h1 : (enc a).drop ((i + 1) * sz) = [] := List.drop_of_length_le (by rw [hsz, Nat.add_mul]; omega)
   have h2 : (i + 1) * sz - (enc a).length = i * sz := by rw [hsz, Nat.add_mul]; omega
   rw [List.drop_succ_cons, zgc, ih, List.drop_append, h1, h2, List.nil_append]
theorem zzc (hsz : ∀ a, (enc a).length = sz) {L : List α} {i : Nat} (hi : i < L.length) {j : Nat} (hj : j < sz) : (zc3 enc L)[i * sz + j]? = (enc L[i])[j]? := by
 have h := qbt hsz L i
 rw [List.drop_eq_getElem_cons hi, zgc] at h
 have h2 := congrArg (fun x => x[j]?) h
 simp only [List.getElem?_drop] at h2
 rw [← h2, List.getElem?_append_left (by rw [hsz]; exact hj)]
end
theorem Rd.at_ {w : World} {a : Option Addr} {xs : List Value} (h : Rd w a xs) (h0 : xs ≠ []) : ∃ b off, a = some ⟨b, off, none⟩ ∧ w.rangeAt b off xs := by
 rcases h with h | ⟨b, off, h1, h2⟩
 ·exact absurd h h0
 ·exact ⟨b, off, h1, h2⟩
theorem Rd.row {w : World} {b off : Nat} {α : Type} {enc : α → List Value} {sz : Nat} (hsz : ∀ a, (enc a).length = sz) {L : List α} (h : w.rangeAt b off (zc3 enc L)) {i : Nat} (hi : i < L.length) : w.rangeAt b (off + i * sz) (enc L[i]) := fun j v hv => by
 have hj : j < sz := by have := (List.getElem?_eq_some_iff.1 hv).1; rwa [hsz] at this
 rw [Nat.add_assoc]
 exact h _ _ (by rw [zzc hsz hi hj]; exact hv)
theorem Rd.mk {w : World} {b off : Nat} {xs : List Value} (h : w.rangeAt b off xs) : Rd w (some ⟨b, off, none⟩) xs := .inr ⟨b, off, rfl, h⟩
theorem zfp {w : World} {b off k : Nat} {xs : List Value} (h : w.rangeAt b off xs) : w.rangeAt b off (xs.take k) := fun j v hv => by
 rw [List.getElem?_take] at hv
 split at hv
 ·exact h j v hv
 ·cases hv
theorem zgx {w : World} {b off k : Nat} {xs : List Value} (h : w.rangeAt b off xs) : w.rangeAt b (off + k) (xs.drop k) := fun j v hv => by
 rw [List.getElem?_drop] at hv
 rw [Nat.add_assoc]; exact h _ v hv
theorem zbg {w : World} {b off : Nat} {xs : List Value} (h : w0.rangeAt b off xs) (hF : ¬ F b) (hw : Hp w0 F m w) : w.rangeAt b off xs := fun j v hv => hw.old hF (h j v hv)
theorem za7 {w : World} {b : Nat} {cs : List Value} {E : TypeId} {fz : Nat × Nat} (h : w.heap[b]? = some (.cells cs.toArray E fz)) : w.rangeAt b 0 cs := fun j v hv => by
 rw [Nat.zero_add, cell_of_row w b j _ E fz h]; simpa using hv
theorem zee {w : World} {e : TypeId} {sz n b c : Nat} {xs : List Value} (h : (own e sz (some (b, c)) n xs).prop w) : w.rangeAt b 0 xs := fun j v hv => by rw [Nat.zero_add]; exact zbo h j v hv
theorem zi0 {T : TypeId} {x : Operand} {b off : Nat} {xs : List Value} (hx : evO l x = some (.pointer (some ⟨b, off, none⟩))) (hT : zvk P T = some xs.length)
  (hr : ∀ w, H w → w.rangeAt b off xs) : OV P (.load T x) ty l H (.agg xs.toArray) := ov fun _ _ _ w hw => by
 have hl : (loadVar T ⟨b, off, none⟩).run P w = .ok (.agg xs.toArray) w := by
  unfold zvk at hT
  split at hT
  ·rename_i hu; exact run_loadVar_mid (P := P) w b off T _ _ (hr w hw) hu rfl hT
  ·rename_i hu; exact run_loadVar_mid (P := P) w b off T _ _ (hr w hw) hu rfl hT
  ·cases hT
 simp only [execOp, zax hx, Instr.loadAt, Instr.sureAddr, Sem.run_bind, Sem.run_pure, Result.andThen_ok, hl]
theorem zfi {T : TypeId} {x : Operand} {b off : Nat} {xs : List Value} {c : Array Value} (hx : evO l x = some (.pointer (some ⟨b, off, none⟩))) (hT : zvk P T = some xs.length)
  (hr : ∀ w, H w → w.rangeAt b off xs) (hc : xs.toArray = c) : OV P (.load T x) ty l H (.agg c) := by subst hc; exact zi0 hx hT hr
/-! ### writes into a block -/
def put (cs : List Value) (off : Nat) (vs : List Value) : List Value := cs.take off ++ vs ++ cs.drop (off + vs.length)
theorem zge {cs : List Value} {off : Nat} {vs : List Value} (h : off + vs.length ≤ cs.length) : (put cs off vs).length = cs.length := by
 simp [put]; omega
theorem Hp.setRow {w : World} {b : Nat} {cur : Array Value} {E : TypeId} {fz : Nat × Nat} (hw : Hp w0 F (pt b (.cells cur E fz) :: m) w) (cs' : Array Value) : Hp w0 F (pt b (.cells cs' E fz) :: m) (w.setRow b cs') :=
 hw.turn _ (setRow_heap w b cur cs' E fz (hw.get (by simp))) (fun k hk => setRow_other w b k _ hk) (by simp) rfl rfl rfl
theorem qg7 {T : TypeId} {x y : Operand} {b off : Nat} {cs : List Value} {vs : Array Value} {E : TypeId} (hok : (zg7 (.store T x y) && zem l (.store T x y)) = true)
  (hx : evO l x = some (.pointer (some ⟨b, off, none⟩))) (hy : evO l y = some (.agg vs)) (hT : (P.info? T).map (·.size) = some vs.size) (h1' : zbz vs.toList = true) (hs : off + vs.size ≤ cs.length) :
  HO P ⟨none, .store T x y, ty, pos, after, g⟩ Q N l (Hp w0 F (pt b (.cells cs.toArray E (0, 0)) :: m)) (α := Unit) (fun _ => l) (fun _ => Hp w0 F (pt b (.cells (put cs off vs.toList).toArray E (0, 0)) :: m)) :=
 zug hok (fun w hw => by
  have hb := hw.get (b := b) (o := .cells cs.toArray E (0, 0)) (by simp)
  have hst := run_storeCells_at P b off E vs.toList 0 cs.toArray w hb (by simpa using hs) (za4.1 h1')
  refine ⟨(), w.setRow b (put cs off vs.toList).toArray, ?_, hw.setRow _⟩
  cases hq : P.info? T with
  | none => simp [hq] at hT
  | some i =>
   have hsz : i.size = vs.size := by simpa [hq] using hT
   simp only [Nat.add_zero] at hst
   simp [execOp, zax hx, zax hy, Instr.storeAt, Instr.sureAddr, storeVar, sizeOf, typeInfo, hq, Value.cells, hsz]
   rw [hst]
   simp [put])
theorem zsi (w : World) (dT sT ty elem : TypeId) (sz b o dLen dCap : Nat) (a : Option Addr) (sLen sCap : Nat) (cur : Array Value) (t : TypeId) (cs : List Value)
  (hu : P.underlying dT = some (.slice elem)) (hs : (P.info? elem).map (·.size) = some sz) (hg : w.heap[b]? = some (.cells cur t (0, 0))) (hn : cs.length = Nat.min sLen dLen * sz)
  (hsrc : Rd w a cs) (h0 : a = none → sLen = 0) (hfit : o + cs.length ≤ cur.size) (h1 : ∀ v ∈ cs, v.oneCell' = true) :
  (Builtin.copy_ #[dT, sT] ty #[.slice (some ⟨b, o, none⟩) dLen dCap, .slice a sLen sCap]).run P w = .ok (goInt (Nat.min sLen dLen)) (w.setRow b (put cur.toList o cs).toArray) := by
 have hst := run_storeCells_at P b o t cs 0 cur w hg (by simpa using hfit) h1
 simp only [Nat.add_zero] at hst
 cases hq : P.info? elem with
 | none => simp [hq] at hs
 | some i =>
  have hi : i.size = sz := by simpa [hq] using hs
  cases a with
  | none =>
   obtain rfl := h0 rfl
   have hmin : Nat.min 0 dLen = 0 := Nat.zero_min _
   rw [hmin, Nat.zero_mul] at hn
   obtain rfl : cs = [] := List.eq_nil_of_length_eq_zero hn
   simp [Builtin.copy_, run_underlying hu, Builtin.lenOf, Builtin.firstCells, sizeOf, typeInfo, hq, hmin]
   simp [storeCells]
   simp [put]
   exact (setRow_self w b cur t (0, 0) hg).symm
  | some a =>
   have hl : ∀ k, cs.length = k → (loadCells a k).run P w = .ok cs.toArray w := fun k hk => by
    subst hk
    refine run_loadCells_list (P := P) w a cs fun j v hv => ?_
    rcases hsrc with h | ⟨b', off', h, h2⟩
    ·subst h; simp at hv
    ·obtain rfl := Option.some.inj h
     rw [zc8]; exact h2 j v hv
   have := hl _ hn
   simp [Builtin.copy_, run_underlying hu, Builtin.lenOf, Builtin.firstCells, sizeOf, typeInfo, hq, hi, this]
   rw [hst]
   simp [put]
theorem zhw {dT sT e : TypeId} {x y : Operand} {b o n c sLen sCap sz : Nat} {a : Option Addr} {cur cs : List Value} {t : TypeId} (hok : zfj N l (.call ⟨.builtin .copy, #[x, y], #[dT, sT]⟩) d = true)
  (hx : evO l x = some (.slice (some ⟨b, o, none⟩) n c)) (hy : evO l y = some (.slice a sLen sCap)) (hT : zka P dT = some e) (he : zc1 P e = some sz) (hn : cs.length = min sLen n * sz)
  (hsrc : ∀ w, Hp w0 F (pt b (.cells cur.toArray t (0, 0)) :: m) w → Rd w a cs) (h0 : a = none → sLen = 0) (hfit : o + cs.length ≤ cur.length) (h1 : zbz cs = true) :
  HO P ⟨some d, .call ⟨.builtin .copy, #[x, y], #[dT, sT]⟩, ty, pos, after, g⟩ Q N l (Hp w0 F (pt b (.cells cur.toArray t (0, 0)) :: m)) (α := Unit) (fun _ => (d, .int .i64 (min sLen n : Nat)) :: l) (fun _ => Hp w0 F (pt b (.cells (put cur o cs).toArray t (0, 0)) :: m)) :=
 zhr (val := fun _ => .int .i64 (min sLen n : Nat)) hok (fun w hw => by
  obtain ⟨i, hi, his⟩ := zbp he
  have hr := zsi (P := P) w dT sT ty e sz b o n c a sLen sCap cur.toArray t cs (zbm hT) (by rw [hi, Option.map_some, his]) (hw.get (by simp)) hn (hsrc w hw) h0 (by simpa using hfit) (za4.1 h1)
  refine ⟨(), _, ?_, hw.setRow _⟩
  simp only [execOp, resolve, invoke, builtin]
  simp [zax hx, zax hy, hr, goInt])
/-! ### make -/
theorem zwt {T e : TypeId} {x y : Operand} {n b sz : Nat} {z : Value} {k1 k2 : IntKind} {i j : Int} [h : NatOf i n] [h' : NatOf j n] (hok : zfj N l (.makeSlice T x y) d = true) (hx : evO l x = some (.int k1 i)) (hy : evO l y = some (.int k2 j))
  (hT : zka P T = some e) (hi : zqb P e = some (sz, b, z)) (hb : (b + 1) * n ≤ 281474976710656) :
  HO P ⟨some d, .makeSlice T x y, ty, pos, after, g⟩ Q N l (Hp w0 F m) (α := { c : Nat // w0.heap.size ≤ c }) (fun c => (d, .slice (some ⟨c.1, 0, none⟩) n n) :: l) (fun c => Hp w0 F (pt c.1 (.cells (zcu z (n * sz)).toArray e (0, 0)) :: m)) := by
 obtain rfl := h.eq; obtain rfl := h'.eq
 exact zhr (val := fun c : { b : Nat // w0.heap.size ≤ b } => .slice (some ⟨c.1, 0, none⟩) n n) hok (fun w hw => by
  obtain ⟨q, h1, h2, h3, h4⟩ := zhj hi
  have hb' : b * n + n ≤ 281474976710656 := by rwa [Nat.add_mul, Nat.one_mul] at hb
  refine ⟨⟨w.heap.size, hw.fr.size⟩, w.alloc (.cells (zcu z (n * sz)).toArray e), ?_, hw.alloc _⟩
  have hr := run_make (P := P) w T e q z (zbm hT) h1 h4 k1 k2 n n (by omega) (by omega) (by rw [h3]; generalize hq : b * n = q at hb'; rw [← Int.natCast_mul, hq]; omega) (by generalize b * n = q at hb'; omega)
  have hm : madeCells z.cells (n * sz) = (zcu z (n * sz)).toArray := by
   apply Array.ext'
   simp [madeCells, zcu, Array.toList_range]
  rw [h2, Int.toNat_natCast, hm] at hr
  simp only [execOp, zax hx, zax hy, Sem.run_bind, hr, Result.andThen_ok, Sem.run_pure])
/-! ### append to what is full -/
/-! ### slicing -/
theorem qib {T e : TypeId} {x y z : Operand} {a : Option Addr} {n c sz : Nat} {k k' : IntKind} {p q : Int} {i j : Nat} [h : NatOf p i] [h' : NatOf q j] (hx : evO l x = some (.slice a n c)) (hy : evO l y = some (.int k p)) (hz : evO l z = some (.int k' q)) (hT : zka P T = some e) (he : zc1 P e = some sz) (hi : i ≤ j ∧ j ≤ c) :
  OV P (.slice T x none (some y) (some z)) ty l H (.slice a i j) := ov fun _ _ _ w _ => by
 obtain rfl := h.eq; obtain rfl := h'.eq
 have hu := zbm hT
 have hu' : P.underlying T = some (.slice (P.elem T)) := by rw [hu]; simp [Program.elem, hu]
 have he' : P.elem T = e := by simp [Program.elem, hu]
 obtain ⟨r, hq, hqs⟩ := zbp he
 have h := run_slice_hm (P := P) w T a n c hu' k k' i j (by omega) (by omega) (by omega)
 have hzz : (sizeOf (P.elem T)).run P w = .ok sz w := by rw [he']; simp [sizeOf, typeInfo, hq, hqs]
 simp only [execOp, zax hx, Option.map_some, Option.map_none, zax hy, zax hz, Sem.run_bind, run_sliceAt_slice w T _ _ _ _ hu', h, hzz, Result.andThen_ok, Int.toNat_natCast, sliced]
 cases a <;> simp [Sem.run_pure, Addr.add]
theorem qik {T e : TypeId} {x : Operand} {a : Option Addr} {n c sz : Nat} (hx : evO l x = some (.slice a n c)) (hT : zka P T = some e) (he : zc1 P e = some sz) : OV P (.slice T x none none none) ty l H (.slice a n c) := ov fun _ _ _ w _ => by
 have hu := zbm hT
 have hu' : P.underlying T = some (.slice (P.elem T)) := by rw [hu]; simp [Program.elem, hu]
 have he' : P.elem T = e := by simp [Program.elem, hu]
 obtain ⟨r, hq, hqs⟩ := zbp he
 have h := run_slice_all (P := P) w T a n c hu'
 have hzz : (sizeOf (P.elem T)).run P w = .ok sz w := by rw [he']; simp [sizeOf, typeInfo, hq, hqs]
 simp only [execOp, zax hx, Option.map_none, Sem.run_bind, run_sliceAt_slice w T _ _ _ _ hu', h, hzz, Result.andThen_ok, sliced]
 cases a <;> simp [Sem.run_pure, Addr.add]
theorem zzv {T e : TypeId} {x y z : Operand} {a : Option Addr} {n c sz : Nat} {k k' : IntKind} {p q : Int} {i j : Nat} [h : NatOf p i] [h' : NatOf q j] (hx : evO l x = some (.slice a n c)) (hy : evO l y = some (.int k p)) (hz : evO l z = some (.int k' q)) (hT : zka P T = some e) (he : zc1 P e = some sz) (hi : i ≤ j ∧ j ≤ c) :
  OV P (.slice T x (some y) (some z) none) ty l H (.slice (zqr a (decide (c = i)) (i * sz)) (j - i) (c - i)) := ov fun _ _ _ w _ => by
 obtain rfl := h.eq; obtain rfl := h'.eq
 have hu := zbm hT
 have hu' : P.underlying T = some (.slice (P.elem T)) := by rw [hu]; simp [Program.elem, hu]
 have he' : P.elem T = e := by simp [Program.elem, hu]
 obtain ⟨r, hq, hqs⟩ := zbp he
 have h := run_slice_lh (P := P) w T a n c hu' k k' i j (by omega) (by omega) (by omega)
 have hzz : (sizeOf (P.elem T)).run P w = .ok sz w := by rw [he']; simp [sizeOf, typeInfo, hq, hqs]
 simp only [execOp, zax hx, Option.map_some, Option.map_none, zax hy, zax hz, Sem.run_bind, run_sliceAt_slice w T _ _ _ _ hu', h, hzz, Result.andThen_ok, Int.toNat_natCast, sliced, zqr]
 simp [Sem.run_pure]
/-! ### memory that is only read: ghost heaps -/
abbrev Gh := Nat → Option Obj
def Gh.In (h : Gh) (w : World) : Prop := ∀ b o, h b = some o → w.heap[b]? = some o
def Gh.join (h h' : Gh) : Gh := fun b => (h b).or (h' b)
def Gh.one (b : Nat) (o : Obj) : Gh := fun k => if k = b then some o else none
def Gh.nil : Gh := fun _ => none
def Gh.le (h h' : Gh) : Prop := ∀ b o, h b = some o → h' b = some o
def mp (h : Gh) : Item := ⟨fun k => (h k).isSome = true, fun w => h.In w⟩
theorem zdn (ro : Nat → Prop) (h : Gh) : (mp h).Stable ro := fun w w' hk hp b o hb => by
 have : (mp h).foot b := by show (h b).isSome = true; rw [hb]; rfl
 rw [hk b (.inr this)]; exact hp b o hb
theorem Gh.le_refl (h : Gh) : h.le h := fun _ _ h => h
theorem Gh.le_trans {h h' h'' : Gh} (a : h.le h') (b : h'.le h'') : h.le h'' := fun x o hx => b x o (a x o hx)
theorem Gh.In.old {h : Gh} {w : World} (h1 : h.In w0) (hF : ∀ b, (h b).isSome = true → ¬ F b) (hw : Hp w0 F m w) : h.In w := fun b o hb => by
 have h2 := h1 b o hb
 rw [hw.fr.block b (Array.getElem?_eq_some_iff.1 h2).1 (hF b (by rw [hb]; rfl))]
 exact h2
theorem Gh.In.fr {h : Gh} {w w' : World} (h1 : h.In w) (hf : Fr none' w w') : h.In w' := fun b o hb => by
 have h2 := h1 b o hb
 rw [hf.block b (Array.getElem?_eq_some_iff.1 h2).1 (fun h => h)]
 exact h2
theorem Gh.In.le {h h' : Gh} {w : World} (h1 : h'.In w) (hl : h.le h') : h.In w := fun b o hb => h1 b o (hl b o hb)
theorem Gh.In.cell {h : Gh} {w : World} (h1 : h.In w) {b : Nat} {cs : List Value} {E : TypeId} {fz : Nat × Nat} (hb : h b = some (.cells cs.toArray E fz)) : w.rangeAt b 0 cs := za7 (h1 b _ hb)
theorem zb3 {e : Exit} {m' : List Item} (hI : ∀ w, Hp w0 F m w → Hp w0 F m' w) (h : HX Q e N l (Hp w0 F m')) : HX Q e N l (Hp w0 F m) := by
 unfold HX at *; exact fun a w s hw => h a w s (hI w hw)
theorem zku {c : Code} {m' : List Item} (hI : ∀ w, Hp w0 F m w → Hp w0 F m' w) (h : HT P c Q N l (Hp w0 F m')) : HT P c Q N l (Hp w0 F m) := by
 unfold HT at *; exact fun a w s hw => h a w s (hI w hw)
theorem ze1 {m' : List Item} (hI : ∀ w, Hp w0 F m w → Hp w0 F m' w) (h : HL P ops Q N rest l (Hp w0 F m')) : HL P ops Q N rest l (Hp w0 F m) := by
 unfold HL at *; exact fun a w s hw => h a w s (hI w hw)
/-! ### items to the front -/
theorem zg1 {α : Type} (a b c d e f : α) (l : List α) : (a :: b :: c :: d :: e :: f :: l).Perm (f :: a :: b :: c :: d :: e :: l) := (List.Perm.cons a (zhl _ _ _ _ _ _)).trans (.swap _ _ _)
theorem zr2 {α : Type} (a b c d e f g : α) (l : List α) : (a :: b :: c :: d :: e :: f :: g :: l).Perm (g :: a :: b :: c :: d :: e :: f :: l) := (List.Perm.cons a (zg1 _ _ _ _ _ _ _)).trans (.swap _ _ _)
theorem zut {α : Type} (a b c d e f g h : α) (l : List α) : (a :: b :: c :: d :: e :: f :: g :: h :: l).Perm (h :: a :: b :: c :: d :: e :: f :: g :: l) := (List.Perm.cons a (zr2 _ _ _ _ _ _ _ _)).trans (.swap _ _ _)
/-! ### pointers -/
theorem qpc {x : Operand} {v : Addr} (hx : evO l x = some (.pointer (some v))) : OV P (.nilCheck x) ty l H (.pointer (some v)) := ov fun _ _ _ w _ => by simp only [execOp, zax hx]; rfl
/-! ### copies into a new row from its i-th element on; stores whose value is told -/
theorem ql9 {cs : List Value} {off : Nat} : put cs off [] = cs := by simp [put]
theorem zhe {T : TypeId} {x y : Operand} {b off : Nat} {cs : List Value} {vs : Array Value} {V : List Value} {E : TypeId} (hok : (zg7 (.store T x y) && zem l (.store T x y)) = true)
  (hx : evO l x = some (.pointer (some ⟨b, off, none⟩))) (hy : evO l y = some (.agg vs)) (hv : vs.toList = V) (hT : (P.info? T).map (·.size) = some V.length) (h1' : zbz V = true) (hs : off + V.length ≤ cs.length) :
  HO P ⟨none, .store T x y, ty, pos, after, g⟩ Q N l (Hp w0 F (pt b (.cells cs.toArray E (0, 0)) :: m)) (α := Unit) (fun _ => l) (fun _ => Hp w0 F (pt b (.cells (put cs off V).toArray E (0, 0)) :: m)) := by
 subst hv
 rw [Array.length_toList] at hT hs
 exact qg7 hok hx hy hT h1' hs
/-! ### two operations that turn memory, in either order -/
section
variable {S : World → Prop} {t : Nat}
theorem zsl (i j : Nat) {oi oj : Oper} {n : Nat} {listed : Array Bool} {α β : Type} {li : α → zat} {Hi : α → World → Prop} {lj : β → zat} {Hj : β → World → Prop} (hr0 : Region.ready .any ops listed = [i, j] ∧ i < t ∧ j < t) (hi0 : nth ops.toList i = some oi) (hj0 : nth ops.toList j = some oj) (gi : oi.guard = none) (gj : oj.guard = none)
  (hi : HO P oi (znl Q) N l H li Hi) (hj : HO P oj (znl Q) N l H lj Hj) (hSi : ∀ x w, Hi x w → S w) (hSj : ∀ x w, Hj x w → S w)
  (ki : ∀ x, HD P ops Q S t N n (listed.setIfInBounds i true) (li x) (Hi x)) (kj : ∀ x, HD P ops Q S t N n (listed.setIfInBounds j true) (lj x) (Hj x)) : HD P ops Q S t N (n + 1) listed l H := by
 unfold HD HO at *
 intro inv a w s hw
 have hi1 := zed hi0
 have hj1 := zed hj0
 obtain ⟨hr, hlt, hlt'⟩ := hr0
 have hmi : i ∈ Region.ready .any ops listed := by rw [hr]; simp
 have hmj : j ∈ Region.ready .any ops listed := by rw [hr]; simp
 refine ⟨fun h => (by rw [hr] at h; cases h), fun k hk => ?_⟩
 rw [hr] at hk
 unfold wpOp
 rcases List.mem_cons.1 hk with rfl | hk
 ·simp only [hi1]
  rw [if_pos (by simp [Region.wanted, gi])]
  exact .inl (And.right <| hi a w s hw _ fun x a' w' s' hw' => ⟨fun _ => hSi x w' hw', ki x (inv.set hmi hlt) a' w' s' hw'⟩)
 ·obtain rfl : k = j := by simpa using hk
  simp only [hj1]
  rw [if_pos (by simp [Region.wanted, gj])]
  exact .inl (And.right <| hj a w s hw _ fun x a' w' s' hw' => ⟨fun _ => hSj x w' hw', kj x (inv.set hmj hlt') a' w' s' hw'⟩)
theorem zh6 {n : Nat} {listed : Array Bool} {m' : List Item} (hp : m.Perm m') (h : HD P ops Q S t N n listed l (Hp w0 F m')) : HD P ops Q S t N n listed l (Hp w0 F m) := by
 unfold HD at *; exact fun inv a w s hw => h inv a w s (hw.perm hp)
end
theorem zke {T : TypeId} {x : Operand} {b i : Nat} {v : Value} {cs : Array Value} {E : TypeId} {fz : Nat × Nat} (hx : evO l x = some (.pointer (some ⟨b, i, none⟩))) (hT : zot P T = true)
  (hm : pt b (.cells cs E fz) ∈ m) (hv : nth cs.toList i = some v) : OV P (.load T x) ty l (Hp w0 F m) v := zc6 hx hT hm (by rw [zpa] at hv; simpa using hv)
end Go.Eng
