/- A range over a function whose rounds are known as a history: iterators of an order that is not known, and such as give items back. -/
/- A region that draws its order and asks for a round: an iterator's own. -/
import Derived.Test.YtplhamichcnmmaaGreatDoorHc02
import Derived.Test.YtplhamichcnmmaaGreatDoorHc07
namespace Go.Eng
open Go.RowKit
section
variable {P : Program} {Q : Exit → Act → World → Prop} {l : Slots} {w0 : World} {F : Nat → Prop} {m : List Item} {fn : Func} {R : Ending → World → Prop}
def IterS (P : Program) (gf : FuncId) (cs : List Value) (mi mo : List Item) {α : Type} (E : List α → α → Prop) (S : List α → Prop) (enc : α → List Value) : Prop :=
  ∀ (σ : Type) (ly : Nat) (Y : σ → Item) (I : List α → σ → Prop) (J : σ → Prop) (s0 : σ) (w : World), (∀ s, (Y s).Stable none') → I [] s0 →
    (∀ k x s, E k x → I k s → Yd P ly Y s (enc x).toArray fun b s' => (b = true ∧ I (k ++ [x]) s') ∨ (b = false ∧ J s')) →
    (∀ it ∈ Y s0 :: mi, Here it w) → (Y s0 :: mi).Pairwise Item.Apart →
    Calls P gf (.func (.yield ly) #[] #[] :: cs).toArray w fun e w' => (∃ v, e = .returned v) ∧ ∃ s, ((∃ k, S k ∧ I k s) ∨ J s) ∧ Its (foots (Y s0 :: mi)) w (Y s :: mo) w'
theorem t_rangeS {gx : Operand} {ps : Array Tmp} {assign body : Code} {n : Nat} {ds : List Deferred} {gf : FuncId} {cs : List Value} {mi mo m2 : List Item} {α : Type} {E : List α → α → Prop} {S : List α → Prop} {enc : α → List Value} {σ : Type} (B : σ → List Item) (I : List α → σ → Prop) (J : Code → σ → Prop) (s0 : σ)
    (hg : evO l gx = some (.func (.func gf) #[] cs.toArray)) (hk : known1 l gx = true) (hb : hasBody P gf = true) (hit : IterS P gf cs mi mo E S enc) (hps : ∀ x, ((enc x).length = ps.size)) (hpn : ∀ p ∈ ps.toList, p < n)
    (hst : ∀ s, ∀ it ∈ B s, it.Stable none') (hmi : ∀ it ∈ mi, it.Stable none') (h0 : I [] s0)
    (hround : ∀ ly rc k x s W, E k x → I k s → HT P assign (asgPost P ly body (Turns ly rc B (fun _ => I (k ++ [x])) (fun c => J (c.getD .skip)) (pt ly (rc.at .ready none) :: B s) W)) ⟨n, [], some ly⟩ (pslots (ps.toList.zip (enc x)) l)
      (Hp W (foots (pt ly (rc.at .ready none) :: B s)) (pt ly (rc.at .ready none) :: B s)))
    (hdone : ∀ D k s, S k → I k s → HX Q .normal ⟨n, markAt D :: ds, none⟩ l (Hp w0 F (pt D (.deferred (some [])) :: (B s ++ (mo ++ m2)))))
    (hstop : ∀ D c s, J c s → HT P c Q ⟨n, markAt D :: ds, none⟩ l (Hp w0 F (pt D (.deferred (some [])) :: (B s ++ (mo ++ m2))))) :
    HT P (.rangeFunc gx ps assign body) Q ⟨n, ds, none⟩ l (Hp w0 F (B s0 ++ (mi ++ m2))) := by
  unfold HT HX at *
  intro a w st hw
  refine wpIn_rangeFunc fun fn _ => ?_
  obtain ⟨rc, hrc⟩ : ∃ rc : Rc, rc = ⟨fn, a.tmps, ps, assign, body, w.heap.size⟩ := ⟨_, rfl⟩
  obtain ⟨ly, hly⟩ : ∃ ly, ly = w.heap.size + 1 := ⟨_, rfl⟩
  obtain ⟨W1, hW1⟩ : ∃ W1, (w.alloc (.deferred (some []))).alloc (rc.at .ready none) = W1 := ⟨_, rfl⟩
  have hH1 : Hp w0 F (pt ly (rc.at .ready none) :: pt w.heap.size (.deferred (some [])) :: (B s0 ++ (mi ++ m2))) W1 := by
    have := (hw.alloc (.deferred (some []))).alloc (rc.at .ready none)
    rw [hW1] at this
    simpa [hly] using this
  obtain ⟨Y, hY⟩ : ∃ Y : σ × Option Code → Item, ∀ s, Y s = bundle (pt ly (rc.at (if s.2.isNone then .ready else .done) s.2) :: B s.1) := ⟨_, fun _ => rfl⟩
  have hLs : ∀ s st pe, ∀ it ∈ pt ly (rc.at st pe) :: B s, it.Stable none' := fun s st pe it hm => (List.mem_cons.1 hm).elim (fun h => h ▸ pt_stable _ _ _) (hst s it)
  have hmarks : ({ a with defers := [markAt w.heap.size] ++ a.defers } : Act).defers = markAt w.heap.size :: ds := by simp [st.defers]
  have st' : St ⟨n, markAt w.heap.size :: ds, none⟩ l { a with defers := [markAt w.heap.size] ++ a.defers } := ⟨st.size, hmarks, st.slot⟩
  have hH2 : Hp w0 F ((pt ly (rc.at .ready none) :: B s0) ++ (mi ++ (pt w.heap.size (.deferred (some [])) :: m2))) W1 := by
    refine hH1.perm ?_
    refine (List.Perm.cons _ ?_)
    refine ((List.perm_middle (l₁ := B s0 ++ mi) (l₂ := m2) (a := pt w.heap.size (.deferred (some [])))).symm.trans ?_ : (pt w.heap.size (.deferred (some [])) :: (B s0 ++ mi ++ m2)).Perm _) |> fun h => by simpa using h
    simp
  have hHere : ∀ it ∈ Y (s0, none) :: mi, Here it W1 := by
    intro it hm
    rcases List.mem_cons.1 hm with rfl | hm
    · rw [hY]
      refine bundle_here (fun it hm => ?_) (List.pairwise_append.1 hH2.apart).1
      have hin := hH2.item it (List.mem_append_left _ hm)
      exact ⟨hin.1, hLs _ _ _ it hm, fun k hk => (hin.2.2 k hk).1⟩
    · have hin := hH2.item it (List.mem_append_right _ (List.mem_append_left _ hm))
      exact ⟨hin.1, hmi it hm, fun k hk => (hin.2.2 k hk).1⟩
  have hAp : (Y (s0, none) :: mi).Pairwise Item.Apart := by
    have h1 := List.pairwise_append.1 hH2.apart
    refine List.pairwise_cons.2 ⟨fun y hy k hk hky => ?_, (List.pairwise_append.1 h1.2.1).1⟩
    rw [hY] at hk
    obtain ⟨x, hx, hkx⟩ := hk
    exact h1.2.2 x hx y (List.mem_append_left _ hy) k hkx hky
  refine ⟨ly, [markAt w.heap.size], W1, { target := .fn (.func gf) cs.toArray, args := #[.func (.yield ly) #[] #[]] }, W1, gf, (.func (.yield ly) #[] #[] :: cs).toArray, W1, ?_, ?_, fun _ _ => trivial, ?_, fw_room _, ?_⟩
  · rw [← hW1, hrc, hly]; exact run_enterLoop_outer _ _ _ _ _
  · have : a.eval gx = .func (.func gf) #[] cs.toArray := by rw [st.eval hk, ev_of hg]
    simp only [resolve, this]
    simp [go_sem]
  · simp [invoke, callFunc_enter hb]
  · refine (callsIn_wide (n := 0)).2 ((hit (σ × Option Code) ly Y (fun k s => s.2 = none ∧ I k s.1) (fun s => ∃ c, s.2 = some c ∧ J c s.1) (s0, none) W1 (fun s => by rw [hY]; exact bundle_stable _) ⟨rfl, h0⟩ ?_ hHere hAp).mono ?_)
    · rintro k x ⟨s, pe⟩ hx ⟨rfl, hI⟩ W hW
      rw [hY] at hW
      have hrec : W.heap[ly]? = some (rc.at .ready none) := (hW.1.1 (pt ly (rc.at .ready none)) (by simp)).1
      refine ⟨fn, (ps.toList.zip (enc x)).foldl (fun t (p, v) => t.setIfInBounds p v) a.tmps, assign, body, ?_, ?_⟩
      · have := run_yield (P := P) (args := (enc x).toArray) hrec (by simpa [hrc] using hps x)
        rw [this, hrc]
        exact congrArg (fun T => Result.ok (Next.round ly fn T assign body) W) (foldZip ps (enc x) _)
      · have s1 : St ⟨n, [], some ly⟩ l { tmps := a.tmps, defers := [] } := ⟨st.size, rfl, st.slot⟩
        have s2 := St.round (ps.toList.zip (enc x)) s1 (fun p hp => hpn _ (List.of_mem_zip (a := p.1) (b := p.2) hp).1)
        have h1 := hround ly rc k x s W hx hI _ W s2 (.begin hW.1.1 hW.1.2 _ fun k hk => hk)
        refine RoundIn.mono (roundIn_of_wpIn (n := 0) (F := Fence.wide) trivial h1) ?_
        rintro e w' ⟨pe, s', he, hJ, hi⟩
        refine ⟨pe.isNone, (s', pe), he, ?_, by rw [hY, hY]; exact hi⟩
        cases pe with
        | none => exact .inl ⟨rfl, rfl, hJ⟩
        | some c => exact .inr ⟨rfl, c, rfl, hJ⟩
    · rintro e w3 ⟨⟨v, rfl⟩, ⟨s, pe⟩, hs, hi⟩
      have h3 : Hp w0 F ((Y (s, pe) :: mo) ++ (pt w.heap.size (.deferred (some [])) :: m2)) w3 := by
        refine Hp.call (m := (pt ly (rc.at .ready none) :: B s0) ++ mi) (by simpa using hH2) hi fun k _ ⟨it, hm, hk⟩ => ?_
        rcases List.mem_cons.1 hm with rfl | hm
        · rw [hY] at hk
          obtain ⟨x, hx, hkx⟩ := hk
          exact ⟨x, List.mem_append_left _ hx, hkx⟩
        · exact ⟨it, List.mem_append_right _ hm, hk⟩
      rw [hY] at h3
      have h4 := Hp.open1 (L := pt ly (rc.at (if pe.isNone then .ready else .done) pe) :: B s) (m := mo ++ (pt w.heap.size (.deferred (some [])) :: m2)) h3
      have h5 := h4.put (m := B s ++ (mo ++ (pt w.heap.size (.deferred (some [])) :: m2))) (rc.at .exhausted pe)
      have h6 : Hp w0 F (pt w.heap.size (.deferred (some [])) :: (B s ++ (mo ++ m2))) (w3.putObj ly (rc.at .exhausted pe)) := by
        refine (h5.sub (List.sublist_cons_self _ _)).perm ?_
        rw [← List.append_assoc, ← List.append_assoc]
        exact List.perm_middle
      have hend := run_endLoop (P := P) (h4.get (b := ly) (o := rc.at (if pe.isNone then .ready else .done) pe) (by simp)) (by cases pe <;> simp)
      refine ⟨pe, _, hend, ?_⟩
      cases pe with
      | none =>
        obtain ⟨k, hk1, -, hk2⟩ := hs.resolve_right fun ⟨c, hc, _⟩ => by cases hc
        exact hdone _ k s hk1 hk2 _ _ st' h6
      | some c => exact hstop _ c s ((hs.resolve_left fun ⟨k, hk1, h, _⟩ => by cases h).elim fun c' h => by cases h.1; exact h.2) _ _ st' h6
def iterPostS {σ : Type} (w : World) (Fc : Nat → Prop) (Y : σ → Item) (mo : List Item) (φ : σ → Prop) : Ending → World → Prop := fun e w' => (∃ v, e = .returned v) ∧ ∃ s, φ s ∧ Its Fc w (Y s :: mo) w'
theorem iterS_of {gf : FuncId} {c : Code} (cs : List Value) (mi mo : List Item) {α : Type} (E : List α → α → Prop) (S : List α → Prop) (enc : α → List Value) (hf : P.funcs[gf]? = some fn) (hb : fn.body = some c) (hn : Nat.ble (cs.length + 1) fn.ntmps = true)
    (h : ∀ (σ : Type) (ly : Nat) (Y : σ → Item) (I : List α → σ → Prop) (J : σ → Prop) (s0 : σ) (w : World), (∀ s, (Y s).Stable none') → I [] s0 →
      (∀ k x s, E k x → I k s → Yd P ly Y s (enc x).toArray fun b s' => (b = true ∧ I (k ++ [x]) s') ∨ (b = false ∧ J s')) →
      HT P c (bodyPost P fn (iterPostS w (foots (Y s0 :: mi)) Y mo fun s => (∃ k, S k ∧ I k s) ∨ J s)) ⟨fn.ntmps, [], none⟩ (argSlots 0 (.func (.yield ly) #[] #[] :: cs)) (Hp w (foots (Y s0 :: mi)) (Y s0 :: mi))) : IterS P gf cs mi mo E S enc :=
  fun σ ly Y I J s0 w hst h0 hy hh ha => calls_of hf hb hn (Hp w (foots (Y s0 :: mi)) (Y s0 :: mi)) (.begin hh ha _ fun _ h => h) (h σ ly Y I J s0 w hst h0 hy)
theorem x_iterS {n : Nat} {σ : Type} {Y : σ → Item} {mo : List Item} {φ : σ → Prop} (s : σ) (hf : fn.results = #[]) (hφ : φ s) (hst : ∀ it ∈ Y s :: mo, it.Stable none') (hs : (Y s :: mo).Sublist m) : HX (bodyPost P fn (iterPostS w0 F Y mo φ)) .ret ⟨n, [], none⟩ l (Hp w0 F m) :=
  x_ret0 hf fun _ hw => ⟨⟨_, rfl⟩, s, hφ, hw.its hs hst⟩
theorem x_iterSN {n : Nat} {σ : Type} {Y : σ → Item} {mo : List Item} {φ : σ → Prop} (s : σ) (hf : fn.results = #[]) (hφ : φ s) (hst : ∀ it ∈ Y s :: mo, it.Stable none') (hs : (Y s :: mo).Sublist m) : HX (bodyPost P fn (iterPostS w0 F Y mo φ)) .normal ⟨n, [], none⟩ l (Hp w0 F m) :=
  x_end0 hf fun _ hw => ⟨⟨_, rfl⟩, s, hφ, hw.its hs hst⟩
theorem cuM_of {f : FuncId} {c : Code} (vs : List Value) (pre : List Item) {α : Type} {val : α → Value} {φ : α → Prop} {its : α → List Item} (hf : P.funcs[f]? = some fn) (hb : fn.body = some c) (hn : Nat.ble vs.length fn.ntmps = true)
    (hp : ∀ it ∈ pre, Here it w0) (ha : pre.Pairwise Item.Apart)
    (h : HT P c (bodyM P fn (ctPost w0 (foots pre) val φ its)) ⟨fn.ntmps, [], none⟩ (argSlots 0 vs) (Hp w0 (foots pre) pre)) : Ct P f vs.toArray w0 (foots pre) val φ its :=
  by unfold Ct; exact callsM_of hf hb hn (Hp w0 (foots pre) pre) (.begin hp ha _ fun _ h => h) h
end
end Go.Eng

namespace Go.Eng
open Go.RowKit
section
variable {P : Program} {Q : Exit → Act → World → Prop} {l : Slots} {w0 : World} {F : Nat → Prop} {m : List Item} {ops : Array Oper} {S : World → Prop}
theorem yieldsIf_in {i : Nat} {o : Oper} {v : Value} {a : Act} (hi : ops[i]? = some o) (hy : YieldsIf P ops S o v a) {K : Act → World → Prop} {w : World} (hS : S w) (h : K (a.put o.dst v) w) : wpOpIn (fw none) 0 P ops Q i K a w := by
  unfold Go.wpOpIn
  simp only [hi]
  rcases hy with ⟨hw, hv⟩ | ⟨hw, rfl⟩
  · simp only [hw, if_true, Oper.wpIn]
    refine ⟨fun _ _ => trivial, ?_⟩
    rw [show (fw none).round = none from rfl, Oper.semAt_none, hv w hS]
    exact h
  · simp only [hw, Bool.false_eq_true, if_false]
    exact ⟨fun _ _ => trivial, h⟩
theorem wpOpIn_putIf {j : Nat} {oi oj : Oper} {v : Value} (hj : ops[j]? = some oj) (hap : oi.apart ops oj = true)
    (hsi : ∀ cs b, oi.op ≠ .select cs b) (hsj : ∀ cs b, oj.op ≠ .select cs b)
    (hQ : ∀ c a w, ¬ Q (.panic c) a w) {K : Act → World → Prop} {a : Act} {w : World}
    (hy : YieldsIf P ops S oi v a) (h : wpOpIn (fw none) 0 P ops Q j K (a.put oi.dst v) w) :
    wpOpIn (fw none) 0 P ops Q j (fun a' w' => YieldsIf P ops S oi v a' ∧ K (a'.put oi.dst v) w') a w := by
  obtain ⟨h1, h2, h3⟩ := Oper.apart_spec hap
  have keep : ∀ (a : Act), YieldsIf P ops S oi v a → ∀ u, YieldsIf P ops S oi v (a.put oj.dst u) := fun a hy u =>
    hy.of_same (execOp_put oi hsi a oj.dst u h3) (wanted_put oi a oj.dst u h3)
  have keepD : ∀ d, YieldsIf P ops S oi v { a with defers := d :: a.defers } := fun d => hy.of_same rfl rfl
  unfold wpOpIn at *
  simp only [hj] at *
  rw [wanted_put oj a oi.dst v h1] at h
  split
  · rename_i hw
    simp only [hw, if_true] at h
    unfold Oper.wpIn at *
    refine ⟨fun _ _ => trivial, ?_⟩
    have h := h.2
    rw [show (fw none).round = none from rfl, Oper.semAt_none, execOp_put oj hsj a oi.dst v h1] at h
    rw [show (fw none).round = none from rfl, Oper.semAt_none]
    generalize (execOp a.eval oj).run P w = r at *
    cases r with
    | ok x w' =>
      cases x <;> simp only [Oper.uponIn] at h ⊢
      case value u => exact ⟨keep a hy u, by rw [← Act.put_comm a v u h2]; exact h⟩
      case skip => exact ⟨keep a hy _, by rw [← Act.put_comm a v undef h2]; exact h⟩
      case defer d =>
        refine ⟨keep _ (keepD d) _, ?_⟩
        rw [← Act.put_comm _ v undef h2, ← Act.put_defers]
        exact h
      case enter f args =>
        refine ⟨h.1, CallsIn.mono h.2 fun e w'' he => ?_⟩
        cases e with
        | returned u => exact ⟨keep a hy u, by rw [← Act.put_comm a v u h2]; exact he⟩
        | panicked c => exact absurd he (hQ _ _ _)
        | outgrown => exact he
      case row row args => exact ⟨h.1, RowsIn.mono h.2 fun u w'' he => ⟨keep a hy u, by rw [← Act.put_comm a v u h2]; exact he⟩⟩
      case round l f tmps assign body =>
        refine ⟨h.1, RoundIn.mono h.2 fun e w'' he => ?_⟩
        cases e with
        | returned u => exact ⟨keep a hy u, by rw [← Act.put_comm a v u h2]; exact he⟩
        | panicked c => exact absurd he (hQ _ _ _)
        | outgrown => exact he
    | halt x w' =>
      cases x <;> simp only [Oper.uponIn] at h ⊢
      case panic u => exact absurd h (hQ _ _ _)
  · rename_i hw
    simp only [hw] at h
    exact ⟨fun _ _ => trivial, keep a hy _, by rw [← Act.put_comm a v undef h2]; exact h.2⟩
def wpAnyI (P : Program) (ops : Array Oper) (Q : Exit → Act → World → Prop) (S : World → Prop) : Nat → Array Bool → Act → World → Prop
  | 0, listed, a, w => Region.ready .any ops listed = [] ∧ Q .normal a w
  | n + 1, listed, a, w => (Region.ready .any ops listed = [] → Q .normal a w) ∧
    ∀ i ∈ Region.ready .any ops listed, wpOpIn (fw none) 0 P ops Q i (fun a' w' => S w' ∧ wpAnyI P ops Q S n (listed.setIfInBounds i true) a' w') a w
theorem wpAnyIn_of_I : ∀ (n : Nat) (listed : Array Bool) (a : Act) (w : World), wpAnyI P ops Q S n listed a w → wpAnyIn (fw none) 0 P .any ops Q n listed a w
  | 0, _, _, _, h => h
  | n + 1, _, _, _, h => ⟨h.1, fun i hi => wpOpIn_mono (fun a' w' h' => wpAnyIn_of_I n _ a' w' h'.2) (h.2 i hi)⟩
theorem wpAnyI_first {i : Nat} {oi : Oper} {v : Value} (hi : ops[i]? = some oi) (hsel : ∀ (j : Nat) (o : Oper) cs b, ops[j]? = some o → o.op ≠ .select cs b)
    (hQ : ∀ c a w, ¬ Q (.panic c) a w) :
    ∀ (fuel : Nat) (listed : Array Bool) (a : Act) (w : World),
      (∀ j oj, ops[j]? = some oj → j ≠ i → listed.getD j true = false → (∀ e ∈ oj.after, Region.binds .any e = true → e.on ≠ i) → oi.apart ops oj = true) →
      i ∈ Region.ready .any ops listed → YieldsIf P ops S oi v a → S w →
      wpAnyI P ops Q S fuel (listed.setIfInBounds i true) (a.put oi.dst v) w → wpAnyI P ops Q S (fuel + 1) listed a w := by
  intro fuel
  induction fuel with
  | zero =>
    intro listed a w _ hr hy hS H
    refine ⟨fun h => (by rw [h] at hr; cases hr), fun j hj => ?_⟩
    by_cases hji : j = i
    · subst hji; exact yieldsIf_in hi hy hS ⟨hS, H⟩
    · have := ready_mono hj hji
      rw [H.1] at this
      cases this
  | succ fuel ih =>
    intro listed a w hfree hr hy hS H
    refine ⟨fun h => (by rw [h] at hr; cases hr), fun j hj => ?_⟩
    by_cases hji : j = i
    · subst hji; exact yieldsIf_in hi hy hS ⟨hS, H⟩
    · have h1 := H.2 j (ready_mono hj hji)
      obtain ⟨hjun, oj, hoj, hall⟩ := mem_ready.1 hj
      have hnot : ∀ e ∈ oj.after, Region.binds .any e = true → e.on ≠ i := fun e he hb heq => by
        have h2 := hall e he hb
        rw [heq, getD_both (mem_ready.1 hr).1] at h2
        cases h2
      have h2 := wpOpIn_putIf hoj (hfree j oj hoj hji hjun hnot) (fun cs b => hsel i oi cs b hi) (fun cs b => hsel j oj cs b hoj) hQ hy h1
      have hfree' : ∀ k ok, ops[k]? = some ok → k ≠ i → (listed.setIfInBounds j true).getD k true = false →
          (∀ e ∈ ok.after, Region.binds .any e = true → e.on ≠ i) → oi.apart ops ok = true := fun k ok hk hki hun hno => by
        refine hfree k ok hk hki ?_ hno
        by_cases hjk : j = k
        · subst hjk; exact hjun
        · rw [getD_set_ne true hjk] at hun; exact hun
      refine wpOpIn_mono (fun a' w' h3 => ⟨h3.2.1, ih (listed.setIfInBounds j true) a' w' hfree' (ready_mono hr (Ne.symm hji)) h3.1 h3.2.1 ?_⟩) h2
      rw [Array.setIfInBounds_comm _ _ hji]
      exact h3.2.2
def HY (P : Program) (ops : Array Oper) (Q : Exit → Act → World → Prop) (S : World → Prop) (N : Fm) (n : Nat) (listed : Array Bool) (l : Slots) (H : World → Prop) : Prop :=
  ∀ a w, St N l a → H w → wpAnyI P ops (calm Q) S n listed a w
theorem t_drawY {id n : Nat} {ds : List Deferred} {r : List Oper} {m' : List Item} (is : List Nat) (hd : distB is = true) (hp : pickI m is = some m') (hm : drawOk P r = true)
    (h : HY P r.toArray Q (Hp w0 F m') ⟨n, ds, none⟩ r.length (Array.replicate r.length false) l (Hp w0 F m)) : HT P (.region id r.toArray true) Q ⟨n, ds, none⟩ l (Hp w0 F m) := by
  unfold HT HY at *
  intro a w s hw
  simp only [drawOk, Bool.and_eq_true] at hm
  refine wpIn_mono (wpIn_region_any (Q := calm Q) hm.1 (wpAnyIn_of_I (S := Hp w0 F m') _ _ _ _ ?_)) (fun _ _ _ h => calm_le h)
  have := h a w.drew s hw.drew
  simpa using this
def stepY (ops : Array Oper) (listed : Array Bool) (i : Nat) : Bool := Region.noSelect ops && (Region.free .any ops listed i && (Region.ready .any ops listed).contains i)
theorem y_val {i n d : Nat} {N : Fm} {listed : Array Bool} {op : Op} {ty : TypeId} {pos : String} {after : Array Edge} {v : Value} {H : World → Prop}
    (hi : nth ops.toList i = some ⟨some d, op, ty, pos, after, none⟩) (hb : stepY ops listed i = true) (hS : ∀ w, H w → S w) (hok : okOp N l op d = true) (hv : OV P op ty l S v)
    (k : HY P ops Q S N n (listed.setIfInBounds i true) ((d, v) :: l) H) : HY P ops Q S N (n + 1) listed l H := by
  obtain ⟨hs, hN, hk⟩ := okOp_spec hok
  simp only [stepY, Bool.and_eq_true] at hb
  obtain ⟨h3, h4, h5⟩ := hb
  unfold HY at *
  unfold OV at hv
  intro a w s hw
  exact wpAnyI_first (nth_ops hi) (Region.noSelect_spec h3) (fun c a w h => h.elim) n listed a w (Region.free_spec (nth_ops hi) h4) (by simpa using h5) (.inl ⟨rfl, fun w hw => by rw [s.exec _ hs hk]; exact hv _ _ _ w hw⟩) (hS w hw) (k _ w (s.put hN v) hw)
theorem y_end {N : Fm} {listed : Array Bool} {H : World → Prop} (hr : Region.ready .any ops listed = []) (k : HX Q .normal N l H) : HY P ops Q S N 0 listed l H := by
  unfold HY HX at *
  exact fun a w s hw => ⟨hr, k a w s hw⟩
theorem y_yield {i n d nn ly : Nat} {ds : List Deferred} {listed : Array Bool} {x : Operand} {xs : List Operand} {vs : List Value} {tys : Array TypeId} {ty : TypeId} {pos : String} {after : Array Edge} {σ : Type} {Y : σ → Item} {s : σ} {R : Bool → σ → Prop}
    (hr : Region.ready .any ops listed = [i]) (hi : nth ops.toList i = some ⟨some d, .call ⟨.value x, xs.toArray, tys⟩, ty, pos, after, none⟩) (hok : okOp ⟨nn, ds, none⟩ l (.call ⟨.value x, xs.toArray, tys⟩) d = true) (hf : evO l x = some (.func (.yield ly) #[] #[])) (hx : evs l xs = some vs) (hst : (Y s).Stable none') (hy : Yd P ly Y s vs.toArray R)
    (hS : ∀ s' w, Hp w0 F (Y s' :: m) w → S w)
    (k : ∀ b s', R b s' → HY P ops Q S ⟨nn, ds, none⟩ n (listed.setIfInBounds i true) ((d, .bool b) :: l) (Hp w0 F (Y s' :: m))) : HY P ops Q S ⟨nn, ds, none⟩ (n + 1) listed l (Hp w0 F (Y s :: m)) := by
  unfold HY at *
  obtain ⟨hs, hN, hk⟩ := okOp_spec hok
  intro a w st hw
  refine ⟨fun h => (by rw [h] at hr; cases hr), fun j hj => ?_⟩
  obtain rfl : j = i := by rw [hr] at hj; simpa using hj
  unfold wpOpIn
  simp only [nth_ops hi]
  rw [if_pos (by simp [Region.wanted])]
  refine ⟨fun _ _ => trivial, ?_⟩
  have hin := hw.item (Y s) (by simp)
  obtain ⟨fn, tmps, asg, body, hrr, hround⟩ := hy w ⟨hin.1, hst, fun k hk => (hin.2.2 k hk).1⟩
  rw [Oper.semAt_eq _ _ _ (noDef_spec (okOp_def hok)), st.exec _ hs hk, run_yieldop hf hx hrr, Oper.uponIn_round]
  have h1 : RoundIn (fw none) 0 P ly fn tmps asg body w _ := hround
  refine ⟨fw_room _, h1.mono fun e w' ⟨b, s', he, hR, hi⟩ => ?_⟩
  subst he
  have hw' : Hp w0 F ([Y s'] ++ m) w' := Hp.call (m := [Y s]) hw hi (fun k _ hk => ⟨Y s, by simp, hk⟩)
  exact ⟨hS s' w' hw', k b s' hR _ _ (st.put hN _) hw'⟩
end
end Go.Eng
