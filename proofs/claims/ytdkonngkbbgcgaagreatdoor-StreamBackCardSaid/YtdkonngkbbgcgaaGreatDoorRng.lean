/- Ranges over a function: the round, the statement, the function that holds one; the iterator. Own work; no condition. -/
import Derived.Test.YtdkonngkbbgcgaaGreatDoorAsk
import Derived.RangeFuncSeq
import Derived.RangeFuncRecord
import Derived.RangeFuncLeaves
set_option maxRecDepth 100000
namespace Go.Eng
open Go.RowKit
section
variable {P : Program} {Q : Exit → Act → World → Prop} {N : Fm} {l : Slots} {H : World → Prop} {ops : Array Oper} {rest : List Oper} {w0 : World} {F : Nat → Prop} {m : List Item}
/-! ### Items at a callee's beginning -/
def foots (L : List Item) : Nat → Prop := fun k => ∃ it ∈ L, it.foot k
def Here (it : Item) (w : World) : Prop := it.prop w ∧ it.Stable none' ∧ ∀ k, it.foot k → k < w.heap.size
theorem Item.Stable.ro {it : Item} (h : it.Stable none') (ro : Nat → Prop) : it.Stable ro := fun w w' hk hp => h w w' (fun k hk' => hk k (.inr (hk'.resolve_left fun f => f.elim))) hp
theorem Hp.begin {w : World} {L : List Item} (h : ∀ it ∈ L, Here it w) (ha : L.Pairwise Item.Apart) (F : Nat → Prop) (hF : ∀ k, foots L k → F k) : Hp w F L w :=
  ⟨.refl _ _, fun it hm => ⟨(h it hm).1, (h it hm).2.1.ro _, fun k hk => ⟨(h it hm).2.2 k hk, fun _ => hF k ⟨it, hm, hk⟩⟩⟩, ha⟩
theorem pt_here {b : Nat} {o : Obj} {w : World} (h : w.heap[b]? = some o) : Here (pt b o) w := ⟨h, pt_stable _ _ _, fun k hk => by cases hk; exact (Array.getElem?_eq_some_iff.1 h).1⟩
/-- Several items as one. -/
def bundle (L : List Item) : Item := ⟨foots L, fun w => (∀ it ∈ L, Here it w) ∧ L.Pairwise Item.Apart⟩
theorem bundle_here {L : List Item} {w : World} (h : ∀ it ∈ L, Here it w) (ha : L.Pairwise Item.Apart) : Here (bundle L) w := by
  refine ⟨⟨h, ha⟩, fun w1 w2 hk hp => ⟨fun it hm => ?_, hp.2⟩, fun k ⟨it, hm, hk⟩ => (h it hm).2.2 k hk⟩
  obtain ⟨h1, h2, h3⟩ := hp.1 it hm
  have he : ∀ k, it.foot k → w2.heap[k]? = w1.heap[k]? := fun k hf => hk k (.inr ⟨it, hm, hf⟩)
  refine ⟨h2 w1 w2 (fun k hf => he k (hf.resolve_left fun f => f.elim)) h1, h2, fun k hf => ?_⟩
  have := he k hf
  have h4 := h3 k hf
  rw [Array.getElem?_eq_getElem h4] at this
  exact (Array.getElem?_eq_some_iff.1 this).1
theorem bundle_stable (L : List Item) : (bundle L).Stable none' := fun w1 w2 hk hp => by
  have h := bundle_here hp.1 hp.2
  exact h.2.1 w1 w2 hk hp
/-- A round that is asked for: what it makes of the state 's'. -/
def Yd (P : Program) (ly : Nat) {σ : Type} (Y : σ → Item) (s : σ) (args : Array Value) (R : Bool → σ → Prop) : Prop :=
  ∀ w, Here (Y s) w → YieldAt Fence.wide 0 P ly args w fun e w' => ∃ b s', e = .returned (.bool b) ∧ R b s' ∧ Its (Y s).foot w [Y s'] w'
theorem run_yieldop {ly : Nat} {x : Operand} {xs : List Operand} {vs : List Value} {tys : Array TypeId} {d : Option Tmp} {ty : TypeId} {pos : String} {after : Array Edge} {g : Option (Nat × Bool)} {w : World} {n : Next} (hf : evO l x = some (.func (.yield ly) #[] #[])) (hx : evs l xs = some vs) (hr : (Instr.yield ly vs.toArray).run P w = .ok n w) :
    (execOp (ev l) ⟨d, .call ⟨.value x, xs.toArray, tys⟩, ty, pos, after, g⟩).run P w = .ok n w := by
  simp only [execOp, resolve, Deferred.ofValue, ev_of hf, List.map_toArray, evs_map hx]
  simp [invoke, hr]
theorem l_yield {d : Nat} {ly : Nat} {x : Operand} {xs : List Operand} {vs : List Value} {tys : Array TypeId} {ty : TypeId} {pos : String} {after : Array Edge} {g : Option (Nat × Bool)} {σ : Type} {Y : σ → Item} {s : σ} {R : Bool → σ → Prop}
    (hg : okG ops l g = true) (hok : okOp N l (.call ⟨.value x, xs.toArray, tys⟩) d = true) (hf : evO l x = some (.func (.yield ly) #[] #[])) (hx : evs l xs = some vs) (hst : (Y s).Stable none') (hy : Yd P ly Y s vs.toArray R)
    (k : ∀ b s', R b s' → HL P ops Q N rest ((d, .bool b) :: l) (Hp w0 F (Y s' :: m))) : HL P ops Q N (⟨some d, .call ⟨.value x, xs.toArray, tys⟩, ty, pos, after, g⟩ :: rest) l (Hp w0 F (Y s :: m)) := by
  unfold HL at *
  obtain ⟨hs, hN, hk⟩ := okOp_spec hok
  intro a w st hw
  unfold wpListIn
  rw [if_pos (okG_spec st hg)]
  refine ⟨fun _ _ => trivial, ?_⟩
  have hin := hw.item (Y s) (by simp)
  obtain ⟨fn, tmps, asg, body, hr, hround⟩ := hy w ⟨hin.1, hst, fun k hk => (hin.2.2 k hk).1⟩
  rw [Oper.semAt_eq _ _ _ (noDef_spec (okOp_def hok)), st.exec _ hs hk, run_yieldop hf hx hr, Oper.uponIn_round]
  have h1 : RoundIn (fw N.r) 0 P ly fn tmps asg body w _ := hround
  refine ⟨fw_room _, h1.mono fun e w' ⟨b, s', he, hR, hi⟩ => ?_⟩
  subst he
  have hw' : Hp w0 F ([Y s'] ++ m) w' := Hp.call (m := [Y s]) hw hi (fun k _ hk => ⟨Y s, by simp, hk⟩)
  exact k b s' hR _ _ (st.put hN _) hw'
end
end Go.Eng
namespace Go.Eng
open Go.RowKit
section
variable {P : Program} {Q : Exit → Act → World → Prop} {N : Fm} {l : Slots} {H : World → Prop} {ops : Array Oper} {rest : List Oper} {w0 : World} {F : Nat → Prop} {m : List Item}
/-- A loop's record, but for its state and its pending jump. -/
structure Rc where
  fn : FuncId
  tmps : Array Value
  ps : Array Tmp
  assign : Code
  body : Code
  D : Nat
def Rc.at (c : Rc) (st : LoopState) (pe : Option Code) : Obj := .loop { state := st, pending := pe, fn := c.fn, tmps := c.tmps, params := c.ps, assign := c.assign, body := c.body, defers := c.D }
theorem Hp.its1 {W w : World} {Fb : Nat → Prop} {L : List Item} (h : Hp W Fb L w) (hs : ∀ it ∈ L, it.Stable none') : Its Fb W [bundle L] w := by
  refine ⟨h.fr, fun it hm => ?_, .cons (fun _ h => by cases h) .nil⟩
  obtain rfl : it = bundle L := by simpa using hm
  refine ⟨⟨fun it hm => ⟨(h.item it hm).1, hs it hm, fun k hk => ((h.item it hm).2.2 k hk).1⟩, h.apart⟩, bundle_stable L, fun k ⟨it, hm, hk⟩ => (h.item it hm).2.2 k hk⟩
theorem Hp.open1 {w : World} {L m : List Item} (h : Hp w0 F (bundle L :: m) w) : Hp w0 F (L ++ m) w := by
  have hb := h.item (bundle L) (by simp)
  refine ⟨h.fr, fun it hm => ?_, List.pairwise_append.2 ⟨hb.1.2, (List.pairwise_cons.1 h.apart).2, fun x hx y hy k hkx hky => ?_⟩⟩
  · rcases List.mem_append.1 hm with hm | hm
    · obtain ⟨h1, h2, h3⟩ := hb.1.1 it hm
      exact ⟨h1, h2.ro _, fun k hk => hb.2.2 k ⟨it, hm, hk⟩⟩
    · exact h.item it (List.mem_cons_of_mem _ hm)
  · exact (List.pairwise_cons.1 h.apart).1 y hy k ⟨x, hx, hkx⟩ hky
theorem Hp.put {W w : World} {Fb : Nat → Prop} {b : Nat} {o : Obj} (h : Hp W Fb (pt b o :: m) w) (o' : Obj) : Hp W Fb (pt b o' :: m) (w.putObj b o') :=
  h.turn o' (World.putObj_heap_same (Array.getElem?_eq_some_iff.1 (h.get (o := o) (by simp))).1) (fun _ hk => World.putObj_heap_other hk) World.putObj_size rfl rfl rfl
def Kept {σ : Type} (I J : Option Code → σ → Prop) (pe : Option Code) (s : σ) : Prop := match pe with | none => I none s | some c => J (some c) s
def LeftBy (e : Exit) (pe : Option Code) : Prop := match e with | .normal => pe = none | .ret => pe = some .ret | .exit id => pe = some (.exit id) | _ => False
/-- What a round makes of the state. -/
def Turns {σ : Type} (ly : Nat) (rc : Rc) (B : σ → List Item) (I J : Option Code → σ → Prop) (L : List Item) (W : World) : Ending → World → Prop := fun e w' =>
  ∃ (pe : Option Code) (s' : σ), e = .returned (.bool pe.isNone) ∧ Kept I J pe s' ∧ Its (foots L) W [bundle (pt ly (rc.at (if pe.isNone then .ready else .done) pe) :: B s')] w'
/-- The end of a round's body. -/
theorem x_turn {σ : Type} {ly : Nat} {rc : Rc} {B : σ → List Item} {I J : Option Code → σ → Prop} {L : List Item} {W : World} (e : Exit) (pe : Option Code)
    (he : LeftBy e pe) (s' : σ) (hI : Kept I J pe s') (hs : (B s').Sublist m) (hst : ∀ it ∈ B s', it.Stable none') :
    HX (roundPost P ly (Turns ly rc B I J L W)) e N l (Hp W (foots L) (pt ly (rc.at .busy none) :: m)) := by
  unfold HX
  intro a w st hw
  have hrec := hw.get (b := ly) (o := rc.at .busy none) (by simp)
  have hend := run_endRound (P := P) pe hrec
  have hw2 : Hp W (foots L) (pt ly (rc.at (if pe.isNone then .ready else .done) pe) :: B s') (w.putObj ly (rc.at (if pe.isNone then .ready else .done) pe)) := (hw.put _).sub (.cons_cons _ hs)
  have hT : Turns ly rc B I J L W (.returned (.bool pe.isNone)) (w.putObj ly (rc.at (if pe.isNone then .ready else .done) pe)) :=
    ⟨pe, s', rfl, hI, hw2.its1 fun it hm => (List.mem_cons.1 hm).elim (fun h => h ▸ pt_stable _ _ _) (hst it)⟩
  cases e with
  | normal => subst he; exact ⟨_, _, hend, hT⟩
  | ret => subst he; exact ⟨_, _, hend, hT⟩
  | exit id => subst he; exact ⟨_, _, hend, hT⟩
  | _ => exact he.elim
/-- What the assignment to the loop's variables must come to. -/
def asgPost (P : Program) (ly : Nat) (body : Code) (R : Ending → World → Prop) : Exit → Act → World → Prop :=
  Exit.then (fun a₁ w₁ => ∃ w₂, (Instr.beginRound ly).run P w₁ = .ok () w₂ ∧ WP P (some ly) body (roundPost P ly R) a₁ w₂) (fun _ _ _ => False)
theorem x_asg {n : Nat} {ds : List Deferred} {ly : Nat} {rc : Rc} {body : Code} {R : Ending → World → Prop} {W : World} {Fb : Nat → Prop}
    (h : HT P body (roundPost P ly R) ⟨n, ds, some ly⟩ l (Hp W Fb (pt ly (rc.at .busy none) :: m))) : HX (asgPost P ly body R) .normal ⟨n, ds, some ly⟩ l (Hp W Fb (pt ly (rc.at .ready none) :: m)) := by
  unfold HX HT at *
  intro a w st hw
  exact ⟨_, run_beginRound (hw.get (b := ly) (o := rc.at .ready none) (by simp)) rfl, h _ _ st (hw.put _)⟩
/-- The slots of a round: the loop's parameters. -/
def pslots : List (Nat × Value) → Slots → Slots
  | [], l => l
  | p :: r, l => pslots r (p :: l)
theorem St.round {n : Nat} {ly : Option Nat} : ∀ (ps : List (Nat × Value)) {l : Slots} {a : Act}, St ⟨n, [], ly⟩ l a → (∀ p ∈ ps, p.1 < n) → St ⟨n, [], ly⟩ (pslots ps l) { a with tmps := ps.foldl (fun t (p, v) => t.setIfInBounds p v) a.tmps }
  | [], _, _, s, _ => s
  | (p, v) :: r, l, a, s, h => St.round r (a := { a with tmps := a.tmps.setIfInBounds p v }) (s.put (h (p, v) (by simp)) v) (fun q hq => h q (by simp [hq]))
theorem foldZip {β : Type} {f : β → Nat × Value → β} (ps : Array Nat) (vs : List Value) (t : β) : (ps.zip vs.toArray).foldl f t = (ps.toList.zip vs).foldl f t := by
  rw [← Array.foldl_toList]; simp
/-- An iterator's contract: it asks for rounds with 'xs', one behind another, while the rounds go on. -/
def Iter (P : Program) (gf : FuncId) (cs : List Value) (mi : List Item) {α : Type} (xs : List α) (enc : α → List Value) : Prop :=
  ∀ (σ : Type) (ly : Nat) (Y : σ → Item) (I : Nat → σ → Prop) (J : σ → Prop) (s0 : σ) (w : World), (∀ s, (Y s).Stable none') → I 0 s0 →
    (∀ k x s, xs[k]? = some x → I k s → Yd P ly Y s (enc x).toArray fun b s' => (b = true ∧ I (k + 1) s') ∨ (b = false ∧ J s')) →
    (∀ it ∈ Y s0 :: mi, Here it w) → (Y s0 :: mi).Pairwise Item.Apart →
    Calls P gf (.func (.yield ly) #[] #[] :: cs).toArray w fun e w' => (∃ v, e = .returned v) ∧ ∃ s, (I xs.length s ∨ J s) ∧ Its (foots (Y s0 :: mi)) w [Y s] w'
theorem t_range {gx : Operand} {ps : Array Tmp} {assign body : Code} {n : Nat} {ds : List Deferred} {gf : FuncId} {cs : List Value} {mi m2 : List Item} {α : Type} {xs : List α} {enc : α → List Value} {σ : Type} (B : σ → List Item) (I : Nat → σ → Prop) (J : Code → σ → Prop) (s0 : σ)
    (hg : evO l gx = some (.func (.func gf) #[] cs.toArray)) (hk : known1 l gx = true) (hb : hasBody P gf = true) (hit : Iter P gf cs mi xs enc) (hps : ∀ x, ((enc x).length = ps.size)) (hpn : ∀ p ∈ ps.toList, p < n)
    (hst : ∀ s, ∀ it ∈ B s, it.Stable none') (hmi : ∀ it ∈ mi, it.Stable none') (h0 : I 0 s0)
    (hround : ∀ ly rc k x s W, xs[k]? = some x → I k s → HT P assign (asgPost P ly body (Turns ly rc B (fun _ => I (k + 1)) (fun c => J (c.getD .skip)) (pt ly (rc.at .ready none) :: B s) W)) ⟨n, [], some ly⟩ (pslots (ps.toList.zip (enc x)) l)
      (Hp W (foots (pt ly (rc.at .ready none) :: B s)) (pt ly (rc.at .ready none) :: B s)))
    (hdone : ∀ D s, I xs.length s → HX Q .normal ⟨n, markAt D :: ds, none⟩ l (Hp w0 F (pt D (.deferred (some [])) :: (B s ++ m2))))
    (hstop : ∀ D c s, J c s → HT P c Q ⟨n, markAt D :: ds, none⟩ l (Hp w0 F (pt D (.deferred (some [])) :: (B s ++ m2)))) :
    HT P (.rangeFunc gx ps assign body) Q ⟨n, ds, none⟩ l (Hp w0 F (B s0 ++ (mi ++ m2))) := by
  unfold HT HX at *
  intro a w st hw
  refine wpIn_rangeFunc fun fn _ => ?_
  obtain ⟨rc, hrc⟩ : ∃ rc : Rc, rc = ⟨fn, a.tmps, ps, assign, body, w.heap.size⟩ := ⟨_, rfl⟩
  obtain ⟨ly, hly⟩ : ∃ ly, ly = w.heap.size + 1 := ⟨_, rfl⟩
  obtain ⟨W1, hW1⟩ : ∃ W1, (w.alloc (.deferred (some []))).alloc (rc.at .ready none) = W1 := ⟨_, rfl⟩
  have hH1 : Hp w0 F (pt ly (rc.at .ready none) :: pt w.heap.size (.deferred (some [])) :: (B s0 ++ (mi ++ m2))) W1 := by
    have := (hw.alloc (.deferred (some []))).alloc (rc.at .ready none)
    rw [hW1] at this
    simpa [hly] using this
  obtain ⟨Y, hY⟩ : ∃ Y : σ × Option Code → Item, ∀ s, Y s = bundle (pt ly (rc.at (if s.2.isNone then .ready else .done) s.2) :: B s.1) := ⟨_, fun _ => rfl⟩
  have hLs : ∀ s st pe, ∀ it ∈ pt ly (rc.at st pe) :: B s, it.Stable none' := fun s st pe it hm => (List.mem_cons.1 hm).elim (fun h => h ▸ pt_stable _ _ _) (hst s it)
  have hmarks : ({ a with defers := [markAt w.heap.size] ++ a.defers } : Act).defers = markAt w.heap.size :: ds := by simp [st.defers]
  have st' : St ⟨n, markAt w.heap.size :: ds, none⟩ l { a with defers := [markAt w.heap.size] ++ a.defers } := ⟨st.size, hmarks, st.slot⟩
  have hH2 : Hp w0 F ((pt ly (rc.at .ready none) :: B s0) ++ (mi ++ (pt w.heap.size (.deferred (some [])) :: m2))) W1 := by
    refine hH1.perm ?_
    refine (List.Perm.cons _ ?_)
    refine ((List.perm_middle (l₁ := B s0 ++ mi) (l₂ := m2) (a := pt w.heap.size (.deferred (some [])))).symm.trans ?_ : (pt w.heap.size (.deferred (some [])) :: (B s0 ++ mi ++ m2)).Perm _) |> fun h => by simpa using h
    simp
  have hHere : ∀ it ∈ Y (s0, none) :: mi, Here it W1 := by
    intro it hm
    rcases List.mem_cons.1 hm with rfl | hm
    · rw [hY]
      refine bundle_here (fun it hm => ?_) (List.pairwise_append.1 hH2.apart).1
      have hin := hH2.item it (List.mem_append_left _ hm)
      exact ⟨hin.1, hLs _ _ _ it hm, fun k hk => (hin.2.2 k hk).1⟩
    · have hin := hH2.item it (List.mem_append_right _ (List.mem_append_left _ hm))
      exact ⟨hin.1, hmi it hm, fun k hk => (hin.2.2 k hk).1⟩
  have hAp : (Y (s0, none) :: mi).Pairwise Item.Apart := by
    have h1 := List.pairwise_append.1 hH2.apart
    refine List.pairwise_cons.2 ⟨fun y hy k hk hky => ?_, (List.pairwise_append.1 h1.2.1).1⟩
    rw [hY] at hk
    obtain ⟨x, hx, hkx⟩ := hk
    exact h1.2.2 x hx y (List.mem_append_left _ hy) k hkx hky
  refine ⟨ly, [markAt w.heap.size], W1, { target := .fn (.func gf) cs.toArray, args := #[.func (.yield ly) #[] #[]] }, W1, gf, (.func (.yield ly) #[] #[] :: cs).toArray, W1, ?_, ?_, fun _ _ => trivial, ?_, fw_room _, ?_⟩
  · rw [← hW1, hrc, hly]; exact run_enterLoop_outer _ _ _ _ _
  · have : a.eval gx = .func (.func gf) #[] cs.toArray := by rw [st.eval hk, ev_of hg]
    simp only [resolve, this]
    simp [go_sem]
  · simp [invoke, callFunc_enter hb]
  · refine (callsIn_wide (n := 0)).2 ((hit (σ × Option Code) ly Y (fun k s => s.2 = none ∧ I k s.1) (fun s => ∃ c, s.2 = some c ∧ J c s.1) (s0, none) W1 (fun s => by rw [hY]; exact bundle_stable _) ⟨rfl, h0⟩ ?_ hHere hAp).mono ?_)
    · rintro k x ⟨s, pe⟩ hx ⟨rfl, hI⟩ W hW
      rw [hY] at hW
      have hrec : W.heap[ly]? = some (rc.at .ready none) := (hW.1.1 (pt ly (rc.at .ready none)) (by simp)).1
      refine ⟨fn, (ps.toList.zip (enc x)).foldl (fun t (p, v) => t.setIfInBounds p v) a.tmps, assign, body, ?_, ?_⟩
      · have := run_yield (P := P) (args := (enc x).toArray) hrec (by simpa [hrc] using hps x)
        rw [this, hrc]
        exact congrArg (fun T => Result.ok (Next.round ly fn T assign body) W) (foldZip ps (enc x) _)
      · have s1 : St ⟨n, [], some ly⟩ l { tmps := a.tmps, defers := [] } := ⟨st.size, rfl, st.slot⟩
        have s2 := St.round (ps.toList.zip (enc x)) s1 (fun p hp => hpn _ (List.of_mem_zip (a := p.1) (b := p.2) hp).1)
        have h1 := hround ly rc k x s W hx hI _ W s2 (.begin hW.1.1 hW.1.2 _ fun k hk => hk)
        refine RoundIn.mono (roundIn_of_wpIn (n := 0) (F := Fence.wide) trivial h1) ?_
        rintro e w' ⟨pe, s', he, hJ, hi⟩
        refine ⟨pe.isNone, (s', pe), he, ?_, by rw [hY, hY]; exact hi⟩
        cases pe with
        | none => exact .inl ⟨rfl, rfl, hJ⟩
        | some c => exact .inr ⟨rfl, c, rfl, hJ⟩
    · rintro e w3 ⟨⟨v, rfl⟩, ⟨s, pe⟩, hs, hi⟩
      have h3 : Hp w0 F ([Y (s, pe)] ++ (pt w.heap.size (.deferred (some [])) :: m2)) w3 := by
        refine Hp.call (m := (pt ly (rc.at .ready none) :: B s0) ++ mi) (by simpa using hH2) hi fun k _ ⟨it, hm, hk⟩ => ?_
        rcases List.mem_cons.1 hm with rfl | hm
        · rw [hY] at hk
          obtain ⟨x, hx, hkx⟩ := hk
          exact ⟨x, List.mem_append_left _ hx, hkx⟩
        · exact ⟨it, List.mem_append_right _ hm, hk⟩
      rw [hY] at h3
      have h4 := Hp.open1 (L := pt ly (rc.at (if pe.isNone then .ready else .done) pe) :: B s) h3
      have h5 := h4.put (m := B s ++ (pt w.heap.size (.deferred (some [])) :: m2)) (rc.at .exhausted pe)
      have h6 : Hp w0 F (pt w.heap.size (.deferred (some [])) :: (B s ++ m2)) (w3.putObj ly (rc.at .exhausted pe)) := (h5.sub (List.sublist_cons_self _ _)).perm List.perm_middle
      have hend := run_endLoop (P := P) (h4.get (b := ly) (o := rc.at (if pe.isNone then .ready else .done) pe) (by simp)) (by cases pe <;> simp)
      refine ⟨pe, _, hend, ?_⟩
      cases pe with
      | none => exact hdone _ s ((hs.resolve_right fun ⟨c, hc, _⟩ => by cases hc).2) _ _ st' h6
      | some c => exact hstop _ c s ((hs.resolve_left fun h => by cases h.1).elim fun c' h => by cases h.1; exact h.2) _ _ st' h6
end
end Go.Eng
namespace Go.Eng
open Go.RowKit
section
variable {P : Program} {Q : Exit → Act → World → Prop} {l : Slots} {w0 : World} {F : Nat → Prop} {m : List Item} {fn : Func} {R : Ending → World → Prop}
/-! ### A function that ranges over a function: its end -/
/-- 'bodyPost' where the frame may bear marks. -/
def bodyM (P : Program) (fn : Func) (R : Ending → World → Prop) : Exit → Act → World → Prop := bodyPostM (fw none) 0 P fn R
def open0 (D : Nat) : Item := pt D (.deferred (some []))
theorem leaves_marks {tmps : Array Value} (h : ∀ w, Hp w0 F m w → LeavesInM (fw none) 0 P fn tmps R [] .returning w) : ∀ (ds : List Nat) (w : World), Hp w0 F (ds.map open0 ++ m) w → LeavesInM (fw none) 0 P fn tmps R (ds.map markAt) .returning w
  | [], w, hw => h w hw
  | D :: ds, w, hw => by
    have hD := hw.get (b := D) (o := .deferred (some [])) (by simp [open0])
    have h1 : Hp w0 F (pt D (.deferred none) :: (ds.map open0 ++ m)) (w.putObj D (.deferred none)) := Hp.put (m := ds.map open0 ++ m) hw _
    exact ⟨by simp, .inl ⟨D, _, rfl, run_takeDeferred hD, leaves_marks h ds _ (h1.sub (List.sublist_cons_self _ _))⟩⟩
theorem x_marks {n : Nat} (ds : List Nat) (h : HX (bodyPost P fn R) .ret ⟨n, [], none⟩ l (Hp w0 F m)) : HX (bodyM P fn R) .ret ⟨n, ds.map markAt, none⟩ l (Hp w0 F (ds.map open0 ++ m)) := by
  unfold HX at *
  intro a w st hw
  have h1 : LeavesInM (fw none) 0 P fn a.tmps R a.defers .returning w := by
    rw [st.defers]
    exact leaves_marks (fun w' hw' => (h { a with defers := [] } w' ⟨st.size, rfl, st.slot⟩ hw').2) ds w hw
  exact h1
theorem x_marksN {n : Nat} (ds : List Nat) (h : HX (bodyPost P fn R) .normal ⟨n, [], none⟩ l (Hp w0 F m)) : HX (bodyM P fn R) .normal ⟨n, ds.map markAt, none⟩ l (Hp w0 F (ds.map open0 ++ m)) := by
  unfold HX at *
  intro a w st hw
  have h1 : LeavesInM (fw none) 0 P fn a.tmps R a.defers .returning w := by
    rw [st.defers]
    exact leaves_marks (fun w' hw' => (h { a with defers := [] } w' ⟨st.size, rfl, st.slot⟩ hw').2) ds w hw
  exact h1
theorem x_mark0 {n : Nat} (h : HX (bodyPost P fn R) .ret ⟨n, [], none⟩ l (Hp w0 F m)) : HX (bodyM P fn R) .ret ⟨n, [], none⟩ l (Hp w0 F m) := x_marks [] h
theorem x_mark1 {n D : Nat} (h : HX (bodyPost P fn R) .ret ⟨n, [], none⟩ l (Hp w0 F m)) : HX (bodyM P fn R) .ret ⟨n, [markAt D], none⟩ l (Hp w0 F (pt D (.deferred (some [])) :: m)) := x_marks [D] h
theorem x_mark1N {n D : Nat} (h : HX (bodyPost P fn R) .normal ⟨n, [], none⟩ l (Hp w0 F m)) : HX (bodyM P fn R) .normal ⟨n, [markAt D], none⟩ l (Hp w0 F (pt D (.deferred (some [])) :: m)) := x_marksN [D] h
theorem x_mark2 {n D E : Nat} (h : HX (bodyPost P fn R) .ret ⟨n, [], none⟩ l (Hp w0 F m)) : HX (bodyM P fn R) .ret ⟨n, [markAt D, markAt E], none⟩ l (Hp w0 F (pt D (.deferred (some [])) :: pt E (.deferred (some [])) :: m)) := x_marks [D, E] h
theorem st_args {vs : List Value} {n : Nat} (hn : Nat.ble vs.length n = true) : St ⟨n, [], none⟩ (argSlots 0 vs) { tmps := vs.toArray ++ Array.replicate (n - vs.toArray.size) undef, defers := [] } := by
  refine ⟨by simp at hn ⊢; omega, rfl, fun t v hv => ?_⟩
  obtain ⟨-, h2⟩ := get_argSlots vs 0 t v hv
  simp only [Nat.sub_zero] at h2
  have hlt : t < vs.length := (List.getElem?_eq_some_iff.1 h2).1
  rw [Array.getElem?_append_left (by simpa using hlt)]
  simpa using h2
theorem callsM_of {f : FuncId} {c : Code} {vs : List Value} {w₀ : World} (hf : P.funcs[f]? = some fn) (hb : fn.body = some c) (hn : Nat.ble vs.length fn.ntmps = true) (H : World → Prop) (hH : H w₀)
    (h : HT P c (bodyM P fn R) ⟨fn.ntmps, [], none⟩ (argSlots 0 vs) H) : Calls P f vs.toArray w₀ R := by
  unfold HT at h
  exact (callsIn_wide (n := 0)).1 (callsIn_of_wp_marks hf hb trivial (h _ _ (st_args hn) hH) rfl)
theorem puM_of {f : FuncId} {c : Code} (vs : List Value) {v : Value} (hf : P.funcs[f]? = some fn) (hb : fn.body = some c) (hn : Nat.ble vs.length fn.ntmps = true)
    (h : HT P c (bodyM P fn (puPost w0 v)) ⟨fn.ntmps, [], none⟩ (argSlots 0 vs) (Hp w0 none' [])) : Pu P f vs.toArray w0 v := by
  unfold Pu; exact callsM_of hf hb hn (Hp w0 none' []) (.start _ _) h
theorem ctM_of {f : FuncId} {c : Code} (vs : List Value) {α : Type} {val : α → Value} {φ : α → Prop} {its : α → List Item} (hf : P.funcs[f]? = some fn) (hb : fn.body = some c) (hn : Nat.ble vs.length fn.ntmps = true)
    (h : HT P c (bodyM P fn (ctPost w0 F val φ its)) ⟨fn.ntmps, [], none⟩ (argSlots 0 vs) (Hp w0 F [])) : Ct P f vs.toArray w0 F val φ its := by
  unfold Ct; exact callsM_of hf hb hn (Hp w0 F []) (.start _ _) h
/-- A callee that takes items over, and hands others back. -/
theorem cu_of {f : FuncId} {c : Code} (vs : List Value) (pre : List Item) {α : Type} {val : α → Value} {φ : α → Prop} {its : α → List Item} (hf : P.funcs[f]? = some fn) (hb : fn.body = some c) (hn : Nat.ble vs.length fn.ntmps = true)
    (hp : ∀ it ∈ pre, Here it w0) (ha : pre.Pairwise Item.Apart)
    (h : HT P c (bodyPost P fn (ctPost w0 (foots pre) val φ its)) ⟨fn.ntmps, [], none⟩ (argSlots 0 vs) (Hp w0 (foots pre) pre)) : Ct P f vs.toArray w0 (foots pre) val φ its := by
  unfold Ct; exact calls_of hf hb hn (Hp w0 (foots pre) pre) (.begin hp ha _ fun _ h => h) h
/-- An iterator, from its body. -/
def iterPost {σ : Type} (w : World) (Fc : Nat → Prop) (Y : σ → Item) (φ : σ → Prop) : Ending → World → Prop := fun e w' => (∃ v, e = .returned v) ∧ ∃ s, φ s ∧ Its Fc w [Y s] w'
theorem iter_of {gf : FuncId} {c : Code} (cs : List Value) (mi : List Item) {α : Type} (xs : List α) (enc : α → List Value) (hf : P.funcs[gf]? = some fn) (hb : fn.body = some c) (hn : Nat.ble (cs.length + 1) fn.ntmps = true)
    (h : ∀ (σ : Type) (ly : Nat) (Y : σ → Item) (I : Nat → σ → Prop) (J : σ → Prop) (s0 : σ) (w : World), (∀ s, (Y s).Stable none') → I 0 s0 →
      (∀ k x s, xs[k]? = some x → I k s → Yd P ly Y s (enc x).toArray fun b s' => (b = true ∧ I (k + 1) s') ∨ (b = false ∧ J s')) →
      HT P c (bodyPost P fn (iterPost w (foots (Y s0 :: mi)) Y fun s => I xs.length s ∨ J s)) ⟨fn.ntmps, [], none⟩ (argSlots 0 (.func (.yield ly) #[] #[] :: cs)) (Hp w (foots (Y s0 :: mi)) (Y s0 :: mi))) : Iter P gf cs mi xs enc :=
  fun σ ly Y I J s0 w hst h0 hy hh ha => calls_of hf hb hn (Hp w (foots (Y s0 :: mi)) (Y s0 :: mi)) (.begin hh ha _ fun _ h => h) (h σ ly Y I J s0 w hst h0 hy)
theorem x_iter {n : Nat} {σ : Type} {Y : σ → Item} {φ : σ → Prop} (s : σ) (hf : fn.results = #[]) (hφ : φ s) (hst : (Y s).Stable none') (hs : [Y s].Sublist m) : HX (bodyPost P fn (iterPost w0 F Y φ)) .ret ⟨n, [], none⟩ l (Hp w0 F m) :=
  x_ret0 hf fun _ hw => ⟨⟨_, rfl⟩, s, hφ, hw.its hs fun it hm => by rw [List.mem_singleton.1 hm]; exact hst⟩
theorem x_iterN {n : Nat} {σ : Type} {Y : σ → Item} {φ : σ → Prop} (s : σ) (hf : fn.results = #[]) (hφ : φ s) (hst : (Y s).Stable none') (hs : [Y s].Sublist m) : HX (bodyPost P fn (iterPost w0 F Y φ)) .normal ⟨n, [], none⟩ l (Hp w0 F m) :=
  x_end0 hf fun _ hw => ⟨⟨_, rfl⟩, s, hφ, hw.its hs fun it hm => by rw [List.mem_singleton.1 hm]; exact hst⟩
/-- A call that takes the items 'pre' over. -/
theorem o_cu {Q : Exit → Act → World → Prop} {N : Fm} {d : Nat} {f : FuncId} {xs : List Operand} {tys : Array TypeId} {vs : List Value} {ty : TypeId} {pos : String} {after : Array Edge} {g : Option (Nat × Bool)} {pre : List Item} {α : Type} {val : α → Value} {φ : α → Prop} {its : α → List Item}
    (hok : okOp N l (.call ⟨.value (.func f), xs.toArray, tys⟩) d = true) (hb : hasBody P f = true) (hx : evs l xs = some vs) (hst : ∀ it ∈ pre, it.Stable none')
    (hc : ∀ w, Hp w0 F (pre ++ m) w → (∀ it ∈ pre, Here it w) → pre.Pairwise Item.Apart → Ct P f vs.toArray w (foots pre) val φ its) :
    HO P ⟨some d, .call ⟨.value (.func f), xs.toArray, tys⟩, ty, pos, after, g⟩ Q N l (Hp w0 F (pre ++ m)) (α := { x : α // φ x }) (fun x => (d, val x.1) :: l) (fun x => Hp w0 F (its x.1 ++ m)) :=
  o_call (val := fun x : { x : α // φ x } => val x.1) hok (enters hb hx) (fun w hw => (Ct.calls (hc w hw (fun it hm => have h := hw.item it (List.mem_append_left _ hm); ⟨h.1, hst it hm, fun k hk => (h.2.2 k hk).1⟩) (List.pairwise_append.1 hw.apart).1)).mono fun _ _ ⟨x, he, hx, hi⟩ => ⟨⟨x, hx⟩, he, hw.call hi fun _ _ ⟨it, hm, hk⟩ => ⟨it, hm, hk⟩⟩)
end
end Go.Eng
namespace Go.Eng
open Go.RowKit
/-- A function value with what it has captured. -/
theorem v_mkf {P : Program} {l : Slots} {H : World → Prop} {ty : TypeId} {f : FuncId} {xs : List Operand} {vs : List Value} (hx : evs l xs = some vs) : OV P (.makeFunc (.func f) #[] xs.toArray) ty l H (.func (.func f) #[] vs.toArray) := ov fun d pos after w _ => by
  simp only [execOp, List.map_toArray, evs_map hx]
  simp [Instr.makeFunc]
  try rfl
/-- A variable of one cell, as a result. -/
theorem cell1_run {P : Program} {w0 : World} {F : Nat → Prop} {m : List Item} {T : TypeId} {b : Nat} {v : Value} {E : TypeId} {fz : Nat × Nat} (hT : oneOf P T = true) (hm : pt b (.cells #[v] E fz) ∈ m) : ∀ w, Hp w0 F m w → (loadVar T ⟨b, 0, none⟩).run P w = .ok v w := fun w hw => by
  have := run_load1 (P := P) hT (cell_pt (i := 0) (hw.get hm) (v := v) rfl)
  simpa [Instr.loadAt, Instr.sureAddr] using this
end Go.Eng
