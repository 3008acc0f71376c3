/- A range over a function whose rounds are zes as a history: iterators of an order that is not zes, and such as give items back. -/
/- A region that draws its order and asks for a round: an iterator's own. -/
/- The plain law of sheets and heads: what is put is taken; the pieces of a text. -/
/- package sheet: Cut, the pieces of a text. -/
/- The plain law of the disk: several writes, then a flush; what a dead disk has. -/
/- package wal: Commit. -/
/- package wal: Commit. -/
/- Plain mathematics of bit maps: words and bytes of a set of numbers; how many bits; the least that is not there. Own work; no condition. -/
/- Contracts of package bits. -/
/- Contracts of package bits, the second part. -/
/- Contracts of package bits, the third part: the map of a page. -/
import Derived.Test.YtkkfifhaobjicaaGreatDoorHc04
import Derived.Test.YtkkfifhaobjicaaGreatDoorHc05
import Derived.Test.YtkkfifhaobjicaaGreatDoorHc07
import Derived.Test.YtkkfifhaobjicaaGreatDoorHc00
import Derived.Test.YtkkfifhaobjicaaGreatDoorChecked
namespace Go.Eng
open Go.RowKit
section
variable {P : Program} {Q : Exit → Act → World → Prop} {l : zaq} {w0 : World} {F : Nat → Prop} {m : List Item} {fn : Func} {R : Ending → World → Prop}
def qd4 (P : Program) (gf : FuncId) (cs : List Value) (mi mo : List Item) {α : Type} (E : List α → α → Prop) (S : List α → Prop) (enc : α → List Value) : Prop :=
 ∀ (σ : Type) (ly : Nat) (Y : σ → Item) (I : List α → σ → Prop) (J : σ → Prop) (s0 : σ) (w : World), (∀ s, (Y s).Stable none') → I [] s0 →
  (∀ k x s, E k x → I k s → Yd P ly Y s (enc x).toArray fun b s' => (b = true ∧ I (k ++ [x]) s') ∨ (b = false ∧ J s')) →
  (∀ it ∈ Y s0 :: mi, za1 it w) → (Y s0 :: mi).Pairwise Item.Apart →
  Calls P gf (.func (.yield ly) #[] #[] :: cs).toArray w fun e w' => (∃ v, e = .returned v) ∧ ∃ s, ((∃ k, S k ∧ I k s) ∨ J s) ∧ Its (zan (Y s0 :: mi)) w (Y s :: mo) w'
theorem qj2 {gx : Operand} {ps : Array Tmp} {assign body : Code} {n : Nat} {ds : List Deferred} {gf : FuncId} {cs : List Value} {mi mo m2 : List Item} {α : Type} {E : List α → α → Prop} {S : List α → Prop} {enc : α → List Value} {σ : Type} (B : σ → List Item) (I : List α → σ → Prop) (J : Code → σ → Prop) (s0 : σ)
  (hg : evO l gx = some (.func (.func gf) #[] cs.toArray)) (hk : zep l gx = true) (hb : zbu P gf = true) (hit : qd4 P gf cs mi mo E S enc) (hps : ∀ x, ((enc x).length = ps.size)) (hpn : ∀ p ∈ ps.toList, p < n)
  (hst : ∀ s, ∀ it ∈ B s, it.Stable none') (hmi : ∀ it ∈ mi, it.Stable none') (h0 : I [] s0)
  (hround : ∀ ly rc k x s W, E k x → I k s → HT P assign (zxn P ly body (qh7 ly rc B (fun _ => I (k ++ [x])) (fun c => J (c.getD .skip)) (pt ly (rc.at .ready none) :: B s) W)) ⟨n, [], some ly⟩ (znk (ps.toList.zip (enc x)) l)
   (Hp W (zan (pt ly (rc.at .ready none) :: B s)) (pt ly (rc.at .ready none) :: B s)))
  (hdone : ∀ D k s, S k → I k s → HX Q .normal ⟨n, zeq D :: ds, none⟩ l (Hp w0 F (pt D (.deferred (some [])) :: (B s ++ (mo ++ m2)))))
  (hstop : ∀ D c s, J c s → HT P c Q ⟨n, zeq D :: ds, none⟩ l (Hp w0 F (pt D (.deferred (some [])) :: (B s ++ (mo ++ m2))))) :
  HT P (.rangeFunc gx ps assign body) Q ⟨n, ds, none⟩ l (Hp w0 F (B s0 ++ (mi ++ m2))) := by
 unfold HT HX at *
 intro a w st hw
 refine wpIn_rangeFunc fun fn _ => ?_
 obtain ⟨rc, hrc⟩ : ∃ rc : Rc, rc = ⟨fn, a.tmps, ps, assign, body, w.heap.size⟩ := ⟨_, rfl⟩
 obtain ⟨ly, hly⟩ : ∃ ly, ly = w.heap.size + 1 := ⟨_, rfl⟩
 obtain ⟨W1, hW1⟩ : ∃ W1, (w.alloc (.deferred (some []))).alloc (rc.at .ready none) = W1 := ⟨_, rfl⟩
 have hH1 : Hp w0 F (pt ly (rc.at .ready none) :: pt w.heap.size (.deferred (some [])) :: (B s0 ++ (mi ++ m2))) W1 := by
  have := (hw.alloc (.deferred (some []))).alloc (rc.at .ready none)
  rw [hW1] at this
  simpa [hly] using this
 obtain ⟨Y, hY⟩ : ∃ Y : σ × Option Code → Item, ∀ s, Y s = zg3 (pt ly (rc.at (if s.2.isNone then .ready else .done) s.2) :: B s.1) := ⟨_, fun _ => rfl⟩
 have hLs : ∀ s st pe, ∀ it ∈ pt ly (rc.at st pe) :: B s, it.Stable none' := fun s st pe it hm => (aJ.1 hm).elim (fun h => h ▸ zac _ _ _) (hst s it)
 have hmarks : ({ a with defers := [zeq w.heap.size] ++ a.defers } : Act).defers = zeq w.heap.size :: ds := by simp [st.defers]
 have st' : St ⟨n, zeq w.heap.size :: ds, none⟩ l { a with defers := [zeq w.heap.size] ++ a.defers } := ⟨st.size, hmarks, st.slot⟩
 have hH2 : Hp w0 F ((pt ly (rc.at .ready none) :: B s0) ++ (mi ++ (pt w.heap.size (.deferred (some [])) :: m2))) W1 := by
  refine hH1.perm ?_
  refine (List.Perm.cons _ ?_)
  refine ((bJ (l₁ := B s0 ++ mi) (l₂ := m2) (a := pt w.heap.size (.deferred (some [])))).symm.trans ?_ : (pt w.heap.size (.deferred (some [])) :: (B s0 ++ mi ++ m2)).Perm _) |> fun h => by simpa using h
  simp
 have hHere : ∀ it ∈ Y (s0, none) :: mi, za1 it W1 := by
  intro it hm
  rcases aJ.1 hm with rfl | hm
  ·rw [hY]
   refine zkc (fun it hm => ?_) (bP.1 hH2.apart).1
   have hin := hH2.item it (aK _ hm)
   exact ⟨hin.1, hLs _ _ _ it hm, fun k hk => (hin.2.2 k hk).1⟩
  ·have hin := hH2.item it (aP _ (aK _ hm))
   exact ⟨hin.1, hmi it hm, fun k hk => (hin.2.2 k hk).1⟩
 have hAp : (Y (s0, none) :: mi).Pairwise Item.Apart := by
  have h1 := bP.1 hH2.apart
  refine bL.2 ⟨fun y hy k hk hky => ?_, (bP.1 h1.2.1).1⟩
  rw [hY] at hk
  obtain ⟨x, hx, hkx⟩ := hk
  exact h1.2.2 x hx y (aK _ hy) k hkx hky
 refine ⟨ly, [zeq w.heap.size], W1, { target := .fn (.func gf) cs.toArray, args := #[.func (.yield ly) #[] #[]] }, W1, gf, (.func (.yield ly) #[] #[] :: cs).toArray, W1, ?_, ?_, fun _ _ => trivial, ?_, zkh _, ?_⟩
 ·rw [← hW1, hrc, hly]; exact run_enterLoop_outer _ _ _ _ _
 ·have : a.eval gx = .func (.func gf) #[] cs.toArray := by rw [st.eval hk, zau hg]
  simp only [resolve, this]
  simp [go_sem]
 ·simp [invoke, zdp hb]
 ·refine (callsIn_wide (n := 0)).2 ((hit (σ × Option Code) ly Y (fun k s => s.2 = none ∧ I k s.1) (fun s => ∃ c, s.2 = some c ∧ J c s.1) (s0, none) W1 (fun s => by rw [hY]; exact zad _) ⟨rfl, h0⟩ ?_ hHere hAp).mono ?_)
  ·rintro k x ⟨s, pe⟩ hx ⟨rfl, hI⟩ W hW
   rw [hY] at hW
   have hrec : W.heap[ly]? = some (rc.at .ready none) := (hW.1.1 (pt ly (rc.at .ready none)) sQ).1
   refine ⟨fn, (ps.toList.zip (enc x)).foldl (fun t (p, v) => t.setIfInBounds p v) a.tmps, assign, body, ?_, ?_⟩
   ·have := run_yield (P := P) (args := (enc x).toArray) hrec (by simpa [hrc] using hps x)
    rw [this, hrc]
    exact congrArg (fun T => Result.ok (Next.round ly fn T assign body) W) (qe5 ps (enc x) _)
   ·have s1 : St ⟨n, [], some ly⟩ l { tmps := a.tmps, defers := [] } := ⟨st.size, rfl, st.slot⟩
    have s2 := St.round (ps.toList.zip (enc x)) s1 (fun p hp => hpn _ (iA (a := p.1) (b := p.2) hp).1)
    have h1 := hround ly rc k x s W hx hI _ W s2 (.begin hW.1.1 hW.1.2 _ fun k hk => hk)
    refine RoundIn.mono (roundIn_of_wpIn (n := 0) (F := Fence.wide) trivial h1) ?_
    rintro e w' ⟨pe, s', he, hJ, hi⟩
    refine ⟨pe.isNone, (s', pe), he, ?_, by rw [hY, hY]; exact hi⟩
    cases pe with
    | none => exact .inl ⟨rfl, rfl, hJ⟩
    | some c => exact .inr ⟨rfl, c, rfl, hJ⟩
  ·rintro e w3 ⟨⟨v, rfl⟩, ⟨s, pe⟩, hs, hi⟩
   have h3 : Hp w0 F ((Y (s, pe) :: mo) ++ (pt w.heap.size (.deferred (some [])) :: m2)) w3 := by
    refine Hp.call (m := (pt ly (rc.at .ready none) :: B s0) ++ mi) (by simpa using hH2) hi fun k _ ⟨it, hm, hk⟩ => ?_
    rcases aJ.1 hm with rfl | hm
    ·rw [hY] at hk
     obtain ⟨x, hx, hkx⟩ := hk
     exact ⟨x, aK _ hx, hkx⟩
    ·exact ⟨it, aP _ hm, hk⟩
   rw [hY] at h3
   have h4 := Hp.open1 (L := pt ly (rc.at (if pe.isNone then .ready else .done) pe) :: B s) (m := mo ++ (pt w.heap.size (.deferred (some [])) :: m2)) h3
   have h5 := h4.put (m := B s ++ (mo ++ (pt w.heap.size (.deferred (some [])) :: m2))) (rc.at .exhausted pe)
   have h6 : Hp w0 F (pt w.heap.size (.deferred (some [])) :: (B s ++ (mo ++ m2))) (w3.putObj ly (rc.at .exhausted pe)) := by
    refine (h5.sub (fO _ _)).perm ?_
    rw [← aH, ← aH]
    exact bJ
   have hend := run_endLoop (P := P) (h4.get (b := ly) (o := rc.at (if pe.isNone then .ready else .done) pe) sQ) (by cases pe <;> simp)
   refine ⟨pe, _, hend, ?_⟩
   cases pe with
   | none =>
    obtain ⟨k, hk1, -, hk2⟩ := hs.resolve_right fun ⟨c, hc, _⟩ => by cases hc
    exact hdone _ k s hk1 hk2 _ _ st' h6
   | some c => exact hstop _ c s ((hs.resolve_left fun ⟨k, hk1, h, _⟩ => by cases h).elim fun c' h => by cases h.1; exact h.2) _ _ st' h6
def zo2 {σ : Type} (w : World) (Fc : Nat → Prop) (Y : σ → Item) (mo : List Item) (φ : σ → Prop) : Ending → World → Prop := fun e w' => (∃ v, e = .returned v) ∧ ∃ s, φ s ∧ Its Fc w (Y s :: mo) w'
theorem qi2 {gf : FuncId} {c : Code} (cs : List Value) (mi mo : List Item) {α : Type} (E : List α → α → Prop) (S : List α → Prop) (enc : α → List Value) (hf : P.funcs[gf]? = some fn) (hb : fn.body = some c) (hn : Nat.ble (cs.length + 1) fn.ntmps = true)
  (h : ∀ (σ : Type) (ly : Nat) (Y : σ → Item) (I : List α → σ → Prop) (J : σ → Prop) (s0 : σ) (w : World), (∀ s, (Y s).Stable none') → I [] s0 →
   (∀ k x s, E k x → I k s → Yd P ly Y s (enc x).toArray fun b s' => (b = true ∧ I (k ++ [x]) s') ∨ (b = false ∧ J s')) →
   HT P c (bodyPost P fn (zo2 w (zan (Y s0 :: mi)) Y mo fun s => (∃ k, S k ∧ I k s) ∨ J s)) ⟨fn.ntmps, [], none⟩ (zaa 0 (.func (.yield ly) #[] #[] :: cs)) (Hp w (zan (Y s0 :: mi)) (Y s0 :: mi))) : qd4 P gf cs mi mo E S enc :=
 fun σ ly Y I J s0 w hst h0 hy hh ha => zn7 hf hb hn (Hp w (zan (Y s0 :: mi)) (Y s0 :: mi)) (.begin hh ha _ fun _ h => h) (h σ ly Y I J s0 w hst h0 hy)
theorem qn2 {n : Nat} {σ : Type} {Y : σ → Item} {mo : List Item} {φ : σ → Prop} (s : σ) (hf : fn.results = #[]) (hφ : φ s) (hst : ∀ it ∈ Y s :: mo, it.Stable none') (hs : (Y s :: mo).Sublist m) : HX (bodyPost P fn (zo2 w0 F Y mo φ)) .ret ⟨n, [], none⟩ l (Hp w0 F m) :=
 qln hf fun _ hw => ⟨⟨_, rfl⟩, s, hφ, hw.its hs hst⟩
theorem qkg {n : Nat} {σ : Type} {Y : σ → Item} {mo : List Item} {φ : σ → Prop} (s : σ) (hf : fn.results = #[]) (hφ : φ s) (hst : ∀ it ∈ Y s :: mo, it.Stable none') (hs : (Y s :: mo).Sublist m) : HX (bodyPost P fn (zo2 w0 F Y mo φ)) .normal ⟨n, [], none⟩ l (Hp w0 F m) :=
 qb0 hf fun _ hw => ⟨⟨_, rfl⟩, s, hφ, hw.its hs hst⟩
theorem qev {f : FuncId} {c : Code} (vs : List Value) (pre : List Item) {α : Type} {val : α → Value} {φ : α → Prop} {its : α → List Item} (hf : P.funcs[f]? = some fn) (hb : fn.body = some c) (hn : Nat.ble vs.length fn.ntmps = true)
  (hp : ∀ it ∈ pre, za1 it w0) (ha : pre.Pairwise Item.Apart)
  (h : HT P c (zop P fn (zk5 w0 (zan pre) val φ its)) ⟨fn.ntmps, [], none⟩ (zaa 0 vs) (Hp w0 (zan pre) pre)) : Ct P f vs.toArray w0 (zan pre) val φ its :=
 by unfold Ct; exact zu6 hf hb hn (Hp w0 (zan pre) pre) (.begin hp ha _ fun _ h => h) h
end
section
variable {P : Program} {Q : Exit → Act → World → Prop} {l : zaq} {w0 : World} {F : Nat → Prop} {m : List Item} {ops : Array Oper} {S : World → Prop}
theorem zqy {i : Nat} {o : Oper} {v : Value} {a : Act} (hi : ops[i]? = some o) (hy : YieldsIf P ops S o v a) {K : Act → World → Prop} {w : World} (hS : S w) (h : K (a.put o.dst v) w) : wpOpIn (fw none) 0 P ops Q i K a w := by
 unfold Go.wpOpIn
 simp only [hi]
 rcases hy with ⟨hw, hv⟩ | ⟨hw, rfl⟩
 ·simp only [hw, if_true, Oper.wpIn]
  refine ⟨fun _ _ => trivial, ?_⟩
  rw [show (fw none).round = none from rfl, Oper.semAt_none, hv w hS]
  exact h
 ·simp only [hw, bU, if_false]
  exact ⟨fun _ _ => trivial, h⟩
theorem zxa {j : Nat} {oi oj : Oper} {v : Value} (hj : ops[j]? = some oj) (hap : oi.apart ops oj = true)
  (hsi : ∀ cs b, oi.op ≠ .select cs b) (hsj : ∀ cs b, oj.op ≠ .select cs b)
  (hQ : ∀ c a w, ¬ Q (.panic c) a w) {K : Act → World → Prop} {a : Act} {w : World}
  (hy : YieldsIf P ops S oi v a) (h : wpOpIn (fw none) 0 P ops Q j K (a.put oi.dst v) w) :
  wpOpIn (fw none) 0 P ops Q j (fun a' w' => YieldsIf P ops S oi v a' ∧ K (a'.put oi.dst v) w') a w := by
 obtain ⟨h1, h2, h3⟩ := Oper.apart_spec hap
 have keep : ∀ (a : Act), YieldsIf P ops S oi v a → ∀ u, YieldsIf P ops S oi v (a.put oj.dst u) := fun a hy u =>
  hy.of_same (execOp_put oi hsi a oj.dst u h3) (wanted_put oi a oj.dst u h3)
 have keepD : ∀ d, YieldsIf P ops S oi v { a with defers := d :: a.defers } := fun d => hy.of_same rfl rfl
 unfold wpOpIn at *
 simp only [hj] at *
 rw [wanted_put oj a oi.dst v h1] at h
 split
 ·rename_i hw
  simp only [hw, if_true] at h
  unfold Oper.wpIn at *
  refine ⟨fun _ _ => trivial, ?_⟩
  have h := h.2
  rw [show (fw none).round = none from rfl, Oper.semAt_none, execOp_put oj hsj a oi.dst v h1] at h
  rw [show (fw none).round = none from rfl, Oper.semAt_none]
  generalize (execOp a.eval oj).run P w = r at *
  cases r with
  | ok x w' =>
   cases x <;> simp only [Oper.uponIn] at h ⊢
   case value u => exact ⟨keep a hy u, by rw [← Act.put_comm a v u h2]; exact h⟩
   case skip => exact ⟨keep a hy _, by rw [← Act.put_comm a v undef h2]; exact h⟩
   case defer d =>
    refine ⟨keep _ (keepD d) _, ?_⟩
    rw [← Act.put_comm _ v undef h2, ← Act.put_defers]
    exact h
   case enter f args =>
    refine ⟨h.1, CallsIn.mono h.2 fun e w'' he => ?_⟩
    cases e with
    | returned u => exact ⟨keep a hy u, by rw [← Act.put_comm a v u h2]; exact he⟩
    | panicked c => exact absurd he (hQ _ _ _)
    | outgrown => exact he
   case row row args => exact ⟨h.1, RowsIn.mono h.2 fun u w'' he => ⟨keep a hy u, by rw [← Act.put_comm a v u h2]; exact he⟩⟩
   case round l f tmps assign body =>
    refine ⟨h.1, RoundIn.mono h.2 fun e w'' he => ?_⟩
    cases e with
    | returned u => exact ⟨keep a hy u, by rw [← Act.put_comm a v u h2]; exact he⟩
    | panicked c => exact absurd he (hQ _ _ _)
    | outgrown => exact he
  | halt x w' =>
   cases x <;> simp only [Oper.uponIn] at h ⊢
   case panic u => exact absurd h (hQ _ _ _)
 ·rename_i hw
  simp only [hw] at h
  exact ⟨fun _ _ => trivial, keep a hy _, by rw [← Act.put_comm a v undef h2]; exact h.2⟩
def zw7 (P : Program) (ops : Array Oper) (Q : Exit → Act → World → Prop) (S : World → Prop) : Nat → Array Bool → Act → World → Prop
 | 0, listed, a, w => Region.ready .any ops listed = [] ∧ Q .normal a w
 | n + 1, listed, a, w => (Region.ready .any ops listed = [] → Q .normal a w) ∧
  ∀ i ∈ Region.ready .any ops listed, wpOpIn (fw none) 0 P ops Q i (fun a' w' => S w' ∧ zw7 P ops Q S n (listed.setIfInBounds i true) a' w') a w
theorem znt : ∀ (n : Nat) (listed : Array Bool) (a : Act) (w : World), zw7 P ops Q S n listed a w → wpAnyIn (fw none) 0 P .any ops Q n listed a w
 | 0, _, _, _, h => h
 | n + 1, _, _, _, h => ⟨h.1, fun i hi => wpOpIn_mono (fun a' w' h' => znt n _ a' w' h'.2) (h.2 i hi)⟩
theorem zw8 {i : Nat} {oi : Oper} {v : Value} (hi : ops[i]? = some oi) (hsel : ∀ (j : Nat) (o : Oper) cs b, ops[j]? = some o → o.op ≠ .select cs b)
  (hQ : ∀ c a w, ¬ Q (.panic c) a w) :
  ∀ (fuel : Nat) (listed : Array Bool) (a : Act) (w : World),
   (∀ j oj, ops[j]? = some oj → j ≠ i → listed.getD j true = false → (∀ e ∈ oj.after, Region.binds .any e = true → e.on ≠ i) → oi.apart ops oj = true) →
   i ∈ Region.ready .any ops listed → YieldsIf P ops S oi v a → S w →
   zw7 P ops Q S fuel (listed.setIfInBounds i true) (a.put oi.dst v) w → zw7 P ops Q S (fuel + 1) listed a w := by
 intro fuel
 induction fuel with
 | zero =>
  intro listed a w _ hr hy hS H
  refine ⟨fun h => (by rw [h] at hr; cases hr), fun j hj => ?_⟩
  by_cases hji : j = i
  ·subst hji; exact zqy hi hy hS ⟨hS, H⟩
  ·have := ready_mono hj hji
   rw [H.1] at this
   cases this
 | succ fuel ih =>
  intro listed a w hfree hr hy hS H
  refine ⟨fun h => (by rw [h] at hr; cases hr), fun j hj => ?_⟩
  by_cases hji : j = i
  ·subst hji; exact zqy hi hy hS ⟨hS, H⟩
  ·have h1 := H.2 j (ready_mono hj hji)
   obtain ⟨hjun, oj, hoj, hall⟩ := mem_ready.1 hj
   have hnot : ∀ e ∈ oj.after, Region.binds .any e = true → e.on ≠ i := fun e he hb heq => by
    have h2 := hall e he hb
    rw [heq, getD_both (mem_ready.1 hr).1] at h2
    cases h2
   have h2 := zxa hoj (hfree j oj hoj hji hjun hnot) (fun cs b => hsel i oi cs b hi) (fun cs b => hsel j oj cs b hoj) hQ hy h1
   have hfree' : ∀ k ok, ops[k]? = some ok → k ≠ i → (listed.setIfInBounds j true).getD k true = false →
     (∀ e ∈ ok.after, Region.binds .any e = true → e.on ≠ i) → oi.apart ops ok = true := fun k ok hk hki hun hno => by
    refine hfree k ok hk hki ?_ hno
    by_cases hjk : j = k
    ·subst hjk; exact hjun
    ·rw [getD_set_ne true hjk] at hun; exact hun
   refine wpOpIn_mono (fun a' w' h3 => ⟨h3.2.1, ih (listed.setIfInBounds j true) a' w' hfree' (ready_mono hr (Ne.symm hji)) h3.1 h3.2.1 ?_⟩) h2
   rw [dI _ _ hji]
   exact h3.2.2
def HY (P : Program) (ops : Array Oper) (Q : Exit → Act → World → Prop) (S : World → Prop) (N : Fm) (n : Nat) (listed : Array Bool) (l : zaq) (H : World → Prop) : Prop :=
 ∀ a w, St N l a → H w → zw7 P ops (znz Q) S n listed a w
theorem qm7 {id n : Nat} {ds : List Deferred} {r : List Oper} {m' : List Item} (is : List Nat) (hd : zq1 is = true) (hp : zlm m is = some m') (hm : zk7 P r = true)
  (h : HY P r.toArray Q (Hp w0 F m') ⟨n, ds, none⟩ r.length (Array.replicate r.length false) l (Hp w0 F m)) : HT P (.region id r.toArray true) Q ⟨n, ds, none⟩ l (Hp w0 F m) := by
 unfold HT HY at *
 intro a w s hw
 simp only [zk7, bH] at hm
 refine wpIn_mono (wpIn_region_any (Q := znz Q) hm.1 (znt (S := Hp w0 F m') _ _ _ _ ?_)) (fun _ _ _ h => zs1 h)
 have := h a w.drew s hw.drew
 simpa using this
def qp1 (ops : Array Oper) (listed : Array Bool) (i : Nat) : Bool := Region.noSelect ops && (Region.free .any ops listed i && (Region.ready .any ops listed).contains i)
theorem zn6 {i n d : Nat} {N : Fm} {listed : Array Bool} {op : Op} {ty : TypeId} {pos : String} {after : Array Edge} {v : Value} {H : World → Prop}
  (hi : nth ops.toList i = some ⟨some d, op, ty, pos, after, none⟩) (hb : qp1 ops listed i = true) (hS : ∀ w, H w → S w) (hok : ze5 N l op d = true) (hv : OV P op ty l S v)
  (k : HY P ops Q S N n (listed.setIfInBounds i true) ((d, v) :: l) H) : HY P ops Q S N (n + 1) listed l H := by
 obtain ⟨hs, hN, hk⟩ := ze1 hok
 simp only [qp1, bH] at hb
 obtain ⟨h3, h4, h5⟩ := hb
 unfold HY at *
 unfold OV at hv
 intro a w s hw
 exact zw8 (zek hi) (Region.noSelect_spec h3) (fun c a w h => h.elim) n listed a w (Region.free_spec (zek hi) h4) (by simpa using h5) (.inl ⟨rfl, fun w hw => by rw [s.exec _ hs hk]; exact hv _ _ _ w hw⟩) (hS w hw) (k _ w (s.put hN v) hw)
theorem qr3 {N : Fm} {listed : Array Bool} {H : World → Prop} (hr : Region.ready .any ops listed = []) (k : HX Q .normal N l H) : HY P ops Q S N 0 listed l H := by
 unfold HY HX at *
 exact fun a w s hw => ⟨hr, k a w s hw⟩
theorem qn5 {i n d nn ly : Nat} {ds : List Deferred} {listed : Array Bool} {x : Operand} {xs : List Operand} {vs : List Value} {tys : Array TypeId} {ty : TypeId} {pos : String} {after : Array Edge} {σ : Type} {Y : σ → Item} {s : σ} {R : Bool → σ → Prop}
  (hr : Region.ready .any ops listed = [i]) (hi : nth ops.toList i = some ⟨some d, .call ⟨.value x, xs.toArray, tys⟩, ty, pos, after, none⟩) (hok : ze5 ⟨nn, ds, none⟩ l (.call ⟨.value x, xs.toArray, tys⟩) d = true) (hf : evO l x = some (.func (.yield ly) #[] #[])) (hx : evs l xs = some vs) (hst : (Y s).Stable none') (hy : Yd P ly Y s vs.toArray R)
  (hS : ∀ s' w, Hp w0 F (Y s' :: m) w → S w)
  (k : ∀ b s', R b s' → HY P ops Q S ⟨nn, ds, none⟩ n (listed.setIfInBounds i true) ((d, .bool b) :: l) (Hp w0 F (Y s' :: m))) : HY P ops Q S ⟨nn, ds, none⟩ (n + 1) listed l (Hp w0 F (Y s :: m)) := by
 unfold HY at *
 obtain ⟨hs, hN, hk⟩ := ze1 hok
 intro a w st hw
 refine ⟨fun h => (by rw [h] at hr; cases hr), fun j hj => ?_⟩
 obtain rfl : j = i := by rw [hr] at hj; simpa using hj
 unfold wpOpIn
 simp only [zek hi]
 rw [if_pos (by simp [Region.wanted])]
 refine ⟨fun _ _ => trivial, ?_⟩
 have hin := hw.item (Y s) sQ
 obtain ⟨fn, tmps, asg, body, hrr, hround⟩ := hy w ⟨hin.1, hst, fun k hk => (hin.2.2 k hk).1⟩
 rw [Oper.semAt_eq _ _ _ (zmt (zlk hok)), st.exec _ hs hk, zp1 hf hx hrr, Oper.uponIn_round]
 have h1 : RoundIn (fw none) 0 P ly fn tmps asg body w _ := hround
 refine ⟨zkh _, h1.mono fun e w' ⟨b, s', he, hR, hi⟩ => ?_⟩
 subst he
 have hw' : Hp w0 F ([Y s'] ++ m) w' := Hp.call (m := [Y s]) hw hi (fun k _ hk => ⟨Y s, by simp, hk⟩)
 exact ⟨hS s' w' hw', k b s' hR _ _ (st.put hN _) hw'⟩
end
end Go.Eng
namespace Go.Proofs.YtkkfifhaobjicaaGreatDoor
open Go.Eng
set_option maxRecDepth 100000
theorem qpz {s : Sht} (hq : s.seq < 18446744073709551616) (ht : s.text.length ≤ 497) : ∃ r, qk8 (zn3 s) = (s, (r, false)) := by
 unfold zn3
 generalize beN 4 (qjx (zs4 (qh3 s))).toNat = c
 obtain ⟨seq, last, text⟩ := s
 unfold qh3
 simp only at hq ht ⊢
 simp only [aH]
 refine ⟨List.replicate (497 - text.length) 0 ++ c, ?_⟩
 unfold qk8
 rw [zik (show seq < 256 ^ 8 from hq)]
 simp only
 rw [zik (show (if last then 2 else 1) < 256 ^ 1 by cases last <;> decide)]
 simp only
 rw [zik (show text.length < 256 ^ 2 by omega)]
 simp only
 rw [zpl]
 simp only
 cases last <;> simp
theorem qk9 {s : Sht} (hq : s.seq < 18446744073709551616) (ht : s.text.length ≤ 497) : zir (zn3 s) = true ∧ zgd (zn3 s) = s := by
 obtain ⟨r, hr⟩ := qpz hq ht
 have h1 : zir (zn3 s) = true := by
  unfold zir
  rw [hr]
  simp [ht]
 refine ⟨h1, ?_⟩
 unfold zgd
 rw [h1, hr]
 rfl
theorem qgc (a b : Bys) (h : a.length < 256) : zfc (beN 1 a.length ++ (a ++ b), false) = (a, (b, false)) := by
 obtain ⟨x, hx⟩ : ∃ x : UInt8, beN 1 a.length = [x] := List.length_eq_one_iff.1 (zam 1 _)
 have hv : beV (beN 1 a.length) = a.length := zxp 1 _ (by simpa using h)
 rw [hx] at hv ⊢
 have hxv : x.toNat = a.length := by simpa [beV] using hv
 unfold zfc
 simp [hxv]
theorem qrc {h : Hd} (ok : h.Ok) : ∃ r, hdR (hdP h) = (h, (r, false)) := by
 obtain ⟨hg, hf, hs, hn⟩ := ok
 unfold hdP
 generalize beN 4 (zs4 (hdH h)).toNat = c
 obtain ⟨gen, first, secs, note⟩ := h
 unfold hdH
 simp only at hg hf hs hn ⊢
 simp only [aH]
 refine ⟨List.replicate (489 - note.length) 0 ++ c, ?_⟩
 unfold hdR
 rw [zik (show gen < 256 ^ 8 from hg)]
 simp only
 rw [zik (show first < 256 ^ 8 from hf)]
 simp only
 rw [zik (show secs < 256 ^ 2 from hs)]
 simp only
 rw [qgc note _ oQ]
theorem qo3 {h : Hd} (ok : h.Ok) : zq2 (hdP h) = true ∧ hdT (hdP h) = h := by
 obtain ⟨r, hr⟩ := qrc ok
 have h1 : hdF (hdP h) = true := by
  unfold hdF
  rw [hr]
  simp [ok.note]
 refine ⟨?_, ?_⟩
 ·unfold zq2
  rw [h1, hr]
  simp
 ·unfold hdT
  rw [h1, hr]
  rfl
def pcS (q : Nat) (t : Bys) (j : Nat) : Sht := ⟨q + j, decide (j + 1 = za9 t.length), (t.drop (497 * j)).take 497⟩
theorem zt6 (q : Nat) (t : Bys) (j : Nat) : (pcS q t j).text.length ≤ 497 := by
 show ((t.drop (497 * j)).take 497).length ≤ 497
 rw [aO]; omega
theorem zpa (n : Nat) : 1 ≤ za9 n := by unfold za9; omega
theorem qcw {n j : Nat} (h : j + 1 = za9 n) : n ≤ 497 * (j + 1) := by unfold za9 at h; omega
theorem qpp {q : Nat} {t : Bys} {j : Nat} (ht : t ≠ []) (hj : j < za9 t.length) : (pcS q t j).text ≠ [] := by
 have hl : 0 < t.length := jI.2 ht
 intro h
 have h1 : ((t.drop (497 * j)).take 497).length = 0 := by rw [show (t.drop (497 * j)).take 497 = [] from h]; rfl
 rw [aO, aU] at h1
 unfold za9 at hj
 omega
theorem zm6 (t : Bys) (j : Nat) : t.take (497 * j) ++ (t.drop (497 * j)).take 497 = t.take (497 * (j + 1)) := by
 rw [fJ, bK, List.take_add]
theorem zpe {q : Nat} (h : q + 1 < 18446744073709551616) : nxt q = q + 1 := aY h
theorem zw0 {B : zeh} {q : Nat} {t : Bys} (hq : q + za9 t.length < 18446744073709551616) (h : ∀ j, j < za9 t.length → B.lookup (q + j) = some (pcS q t j)) (f : Nat) (acc : List Bys) :
  ∀ d j, j + d + 1 = za9 t.length → zcv B (f + (d + 1)) (q + j) (t.take (497 * j)) acc = zcv B f (q + za9 t.length) [] (acc ++ [t])
 | 0, j, hd => by
  rw [aF, zcv, h j oQ]
  simp only
  have e : (pcS q t j).last = true := decide_eq_true oQ
  have e2 : nxt (q + j) = q + za9 t.length := by rw [zpe oQ]; omega
  have e3 : t.take (497 * j) ++ (pcS q t j).text = t := by
   show t.take (497 * j) ++ (t.drop (497 * j)).take 497 = t
   rw [zm6]
   exact cA (qcw oQ)
  rw [e, if_pos rfl, e2, e3]
 | d + 1, j, hd => by
  rw [show f + (d + 1 + 1) = (f + (d + 1)) + 1 by omega, zcv, h j oQ]
  simp only
  have e : (pcS q t j).last = false := decide_eq_false oQ
  have e2 : nxt (q + j) = q + (j + 1) := by rw [zpe oQ]; omega
  have e3 : t.take (497 * j) ++ (pcS q t j).text = t.take (497 * (j + 1)) := zm6 t j
  rw [e, e2, e3]
  exact zw0 hq h f acc d (j + 1) oQ
theorem qhl {B : zeh} {q : Nat} {t : Bys} (hq : q + za9 t.length < 18446744073709551616) (h : ∀ j, j < za9 t.length → B.lookup (q + j) = some (pcS q t j)) (f : Nat) (acc : List Bys) :
  zcv B (f + za9 t.length) q [] acc = zcv B f (q + za9 t.length) [] (acc ++ [t]) := by
 have hp := zpa t.length
 have := zw0 hq h f acc (za9 t.length - 1) 0 oQ
 rw [show za9 t.length - 1 + 1 = za9 t.length by omega] at this
 simpa using this
theorem zsr {B : zeh} {q k : Nat} {t : Bys} (hq : q + za9 t.length < 18446744073709551616) (hk : k < za9 t.length) (h : ∀ j, j < k → B.lookup (q + j) = some (pcS q t j)) (hn : B.lookup (q + k) = none) (acc : List Bys) :
  ∀ f j, j ≤ k → zcv B f (q + j) (t.take (497 * j)) acc = acc
 | 0, _, _ => rfl
 | f + 1, j, hj => by
  rw [zcv]
  rcases Nat.lt_or_eq_of_le hj with hj | rfl
  ·rw [h j hj]
   simp only
   have e : (pcS q t j).last = false := decide_eq_false oQ
   have e2 : nxt (q + j) = q + (j + 1) := by rw [zpe oQ]; omega
   have e3 : t.take (497 * j) ++ (pcS q t j).text = t.take (497 * (j + 1)) := zm6 t j
   rw [e, e2, e3]
   exact zsr hq hk h hn acc f (j + 1) hj
  ·rw [hn]
def zkz : Nat → List Bys → Nat
 | q, [] => q
 | q, t :: ts => zkz (q + za9 t.length) ts
theorem zox : ∀ (ts : List Bys) (q : Nat), q ≤ zkz q ts
 | [], _ => aX _
 | t :: ts, q => cL (iW _ _) (zox ts _)
theorem ztb : ∀ (ts : List Bys) (q : Nat) (t : Bys), zkz q (ts ++ [t]) = zkz q ts + za9 t.length
 | [], _, _ => rfl
 | _ :: ts, q, t => ztb ts _ t
theorem zz8 : ∀ (ts : List Bys) (q : Nat), q + ts.length ≤ zkz q ts
 | [], q => aX _
 | t :: ts, q => by
  have h1 := zz8 ts (q + za9 t.length)
  have h2 := zpa t.length
  rw [zkz, aZ]
  omega
def zxd (B : zeh) : Nat → List Bys → Prop
 | _, [] => True
 | q, t :: ts => (∀ j, j < za9 t.length → B.lookup (q + j) = some (pcS q t j)) ∧ zxd B (q + za9 t.length) ts
theorem zxd.all {B : zeh} : ∀ {ts : List Bys} {q : Nat}, zxd B q ts → ∀ k, q ≤ k → k < zkz q ts → ∃ s, B.lookup k = some s
 | [], _, _, k, h1, h2 => absurd h2 (by rw [zkz]; omega)
 | t :: ts, q, h, k, h1, h2 => by
  by_cases hk : k < q + za9 t.length
  ·have := h.1 (k - q) oQ
   rw [show q + (k - q) = k by omega] at this
   exact ⟨_, this⟩
  ·exact zxd.all h.2 k oQ h2
theorem zxd.app {B : zeh} : ∀ {ts : List Bys} {q : Nat} {t : Bys}, zxd B q ts → (∀ j, j < za9 t.length → B.lookup (zkz q ts + j) = some (pcS (zkz q ts) t j)) → zxd B q (ts ++ [t])
 | [], _, _, _, h2 => ⟨h2, trivial⟩
 | _ :: _, _, _, h, h2 => ⟨h.1, zxd.app h.2 h2⟩
theorem zwz {B : zeh} (f : Nat) : ∀ (ts : List Bys) (q : Nat) (acc : List Bys), zkz q ts < 18446744073709551616 → zxd B q ts → zcv B (f + (zkz q ts - q)) q [] acc = zcv B f (zkz q ts) [] (acc ++ ts)
 | [], q, acc, _, _ => by simp [zkz]
 | t :: ts, q, acc, hq, h => by
  have h1 := zox ts (q + za9 t.length)
  rw [zkz] at hq
  have e : f + (zkz q (t :: ts) - q) = (f + (zkz (q + za9 t.length) ts - (q + za9 t.length))) + za9 t.length := by rw [zkz]; omega
  rw [e, qhl oQ h.1, zwz f ts _ _ hq h.2, zkz]
  simp
theorem zwl : ∀ (m : Nat) (B : zeh) (q : Nat), (∀ k, q ≤ k → k < q + m → ∃ s, B.lookup k = some s) → m ≤ B.length
 | 0, _, _, _ => aV _
 | m + 1, B, q, h => by
  obtain ⟨s, hs⟩ := h (q + m) oQ oQ
  have hm := zh2 hs
  have h1 : (B.filter fun p => decide (p.1 ≠ q + m)).length < B.length := by
   refine List.length_filter_lt_length_iff_exists.2 ⟨_, hm, by simp⟩
  have h2 := zwl m (B.filter fun p => decide (p.1 ≠ q + m)) q fun k hk1 hk2 => by
   obtain ⟨s', hs'⟩ := h k hk1 oQ
   refine ⟨s', ?_⟩
   have : ∀ (L : zeh), (L.filter fun p => decide (p.1 ≠ q + m)).lookup k = L.lookup k := by
    intro L
    induction L with
    | nil => rfl
    | cons p L ih =>
     by_cases hp : p.1 = q + m
     ·rw [dY (by simp [hp]), ih, cF, show (k == p.1) = false by simp; omega]
     ·rw [eT (by simp [hp]), cF, cF, ih]
   rw [this, hs']
  omega
theorem zm7 {B : zeh} {ts : List Bys} {q : Nat} (hq : zkz q ts < 18446744073709551616) (h : zxd B q ts) (hstop : ∀ f acc, zcv B f (zkz q ts) [] acc = acc) : zcv B (B.length + 1) q [] [] = ts := by
 have h1 := zox ts q
 have h2 := zwl (zkz q ts - q) B q fun k hk1 hk2 => h.all k hk1 oQ
 obtain ⟨f, hf⟩ : ∃ f, B.length + 1 = f + (zkz q ts - q) := ⟨B.length + 1 - (zkz q ts - q), oQ⟩
 rw [hf, zwz f ts q [] hq h, hstop]
 rfl
theorem zwu {B : zeh} {q : Nat} (h : B.lookup q = none) (f : Nat) (acc : List Bys) : zcv B f q [] acc = acc := by
 cases f with
 | zero => rfl
 | succ f => rw [zcv, h]
theorem qhe {B : zeh} {q k : Nat} {t : Bys} (hq : q + za9 t.length < 18446744073709551616) (hk : k < za9 t.length) (h : ∀ j, j < k → B.lookup (q + j) = some (pcS q t j)) (hn : B.lookup (q + k) = none) (f : Nat) (acc : List Bys) : zcv B f q [] acc = acc := by
 have := zsr hq hk h hn acc f 0 (aV _)
 simpa using this
end Go.Proofs.YtkkfifhaobjicaaGreatDoor
namespace Go.Eng
open Go.RowKit
theorem zyb {w0 w : World} {F : Nat → Prop} {m : List Item} (e : TypeId) (sz : Nat) (h : Hp w0 F m w) : Hp w0 F (own e sz none 0 [] :: m) w := Hp.call0 (L := [own e sz none 0 []]) h ⟨.refl _ _, fun it hm => by
   obtain rfl : it = own e sz none 0 [] := by simpa using hm
   exact ⟨⟨(kM sz).symm, rfl⟩, zab _ _ _ _ _ _, fun k ⟨c, h⟩ => by cases h⟩, .cons (fun _ h => by cases h) .nil⟩
theorem zso {P : Program} {c : Code} {Q : Exit → Act → World → Prop} {N : Fm} {l : zaq} {w0 : World} {F : Nat → Prop} {m : List Item} (e : TypeId) (sz : Nat) (h : HT P c Q N l (Hp w0 F (own e sz none 0 [] :: m))) : HT P c Q N l (Hp w0 F m) := by
 unfold HT at *
 exact fun a w s hw => h a w s (zyb e sz hw)
theorem zsm (o : Option (Nat × Nat)) (n : Nat) : (slV o n).cells = #[slV o n] := by cases o <;> rfl
theorem qa9 (o : Option (Nat × Nat)) (n : Nat) : (slV o n).oneCell' = true := by cases o <;> rfl
end Go.Eng
namespace Go.Proofs.YtkkfifhaobjicaaGreatDoor
open Go.RowKit Go.Eng
set_option maxRecDepth 100000
def qrk (q : Nat) (t : Bys) : List Sht := (List.range (za9 t.length)).map (pcS q t)
end Go.Proofs.YtkkfifhaobjicaaGreatDoor
namespace Go.Proofs.YtkkfifhaobjicaaGreatDoor
open Go.Eng
set_option maxRecDepth 100000
theorem qm4 {α : Type} {M : List α → Prop} (h0 : M []) (hs : ∀ l x, M l → M (l ++ [x])) (l : List α) : M l := by
 rw [← List.reverse_reverse l]
 generalize l.reverse = r
 induction r with
 | nil => exact h0
 | cons x r ih => rw [List.reverse_cons]; exact hs _ _ ih
def zb5 (D : Dsk) : List (Nat × Bys) → Nat × Dsk
 | [] => (0, D)
 | p :: l => if (zbz D p.1 p.2).1 = 0 then zb5 (zbz D p.1 p.2).2 l else zbz D p.1 p.2
def zcu (D : Dsk) (ws : List (Nat × Bys)) : Nat × Dsk := if (zb5 D ws).1 = 0 then zb6 (zb5 D ws).2 else zb5 D ws
theorem zgx (D : Dsk) (a : Nat) (h : Hd) : zbw D a h = zcu D [(a, hdP h)] := by
 unfold zbw zcu zb5 zb5
 split
 ·rw [if_pos rfl]
 ·rfl
def zeb (on : List Bys) : List (Nat × Bys) → List Bys
 | [] => on
 | p :: l => zeb (on.set p.1 p.2) l
theorem zgl : ∀ (ws : List (Nat × Bys)) (on : List Bys), (zeb on ws).length = on.length
 | [], _ => rfl
 | p :: l, on => by rw [zeb, zgl l, bO]
theorem zm1 : ∀ (ws : List (Nat × Bys)) (on : List Bys) (p : Nat × Bys), zeb on (ws ++ [p]) = (zeb on ws).set p.1 p.2
 | [], _, _ => rfl
 | _ :: l, on, p => zm1 l _ p
def Mix (on : List Bys) (ws : List (Nat × Bys)) (on' : List Bys) : Prop := on'.length = on.length ∧ ∀ i, i < on.length → on'[i]? = on[i]? ∨ ∃ s, (i, s) ∈ ws ∧ on'[i]? = some s
theorem Mix.refl (on : List Bys) (ws : List (Nat × Bys)) : Mix on ws on := ⟨rfl, fun _ _ => .inl rfl⟩
theorem Mix.more {on on' : List Bys} {ws ws' : List (Nat × Bys)} (h : Mix on ws on') (hs : ∀ p ∈ ws, p ∈ ws') : Mix on ws' on' := ⟨h.1, fun i hi => (h.2 i hi).imp id fun ⟨s, h1, h2⟩ => ⟨s, hs _ h1, h2⟩⟩
theorem Mix.set {on on' : List Bys} {ws : List (Nat × Bys)} (h : Mix on ws on') {p : Nat × Bys} (hp : p ∈ ws) : Mix on ws (on'.set p.1 p.2) := by
 refine ⟨by rw [bO, h.1], fun i hi => ?_⟩
 by_cases e : p.1 = i
 ·refine .inr ⟨p.2, by rw [← e]; exact hp, ?_⟩
  rw [← e, fM (by rw [h.1, e]; exact hi)]
 ·rw [fY e]
  exact h.2 i hi
theorem Mix.all (on : List Bys) : ∀ ws : List (Nat × Bys), Mix on ws (zeb on ws) := fun ws => by
 induction ws using qm4 with
 | h0 => exact .refl _ _
 | hs l p ih =>
  rw [zm1]
  exact (ih.more fun q hq => aK _ hq).set (aP _ (.head _))
def swp (ws : List (Nat × Bys)) : List (Bys × Nat) := ws.map fun p => (p.2, p.1)
theorem zsz (on : List Bys) (ws : List (Nat × Bys)) (f : Nat → Bool) : ∀ k, k ≤ ws.length → Mix on ws (zis on (swp ws) f k)
 | 0, _ => .refl _ _
 | k + 1, hk => by
  have ih := zsz on ws f k oQ
  rw [zis]
  split
  ·have e : (swp ws).getD k ([], 0) = ((ws[k]'hk).2, (ws[k]'hk).1) := by simp [swp, List.getD, aB hk]
   rw [e]
   exact ih.set (aR hk)
  ·exact ih
theorem zsy (on : List Bys) (ws : List (Nat × Bys)) : ∀ k, k ≤ ws.length → zis on (swp ws) (fun _ => true) k = zeb on (ws.take k)
 | 0, _ => rfl
 | k + 1, hk => by
  rw [zis, if_pos rfl, zsy on ws k oQ, cT hk, zm1]
  simp [swp, List.getD, aB hk]
structure Dsk.Rest (D : Dsk) : Prop where
 live : D.dead = false
 wait : D.wait = []
def qh5 (D : Dsk) (ws : List (Nat × Bys)) : Prop := ∀ p ∈ ws, p.1 < D.on.length ∧ p.2.length = 512
theorem zqw {D : Dsk} {pre : List (Nat × Bys)} : ∀ {ws : List (Nat × Bys)} {D1 : Dsk}, qh5 D ws → D1.dead = false → D1.on = D.on → D1.wait = swp pre → D1.keep = D.keep → (D.left = none → D1.left = none) →
  ((zb5 D1 ws).1 = 0 ∧ (zb5 D1 ws).2.dead = false ∧ (zb5 D1 ws).2.on = D.on ∧ (zb5 D1 ws).2.wait = swp (pre ++ ws) ∧ (zb5 D1 ws).2.keep = D.keep ∧ (D.left = none → (zb5 D1 ws).2.left = none)) ∨
  (D.left ≠ none ∧ (zb5 D1 ws).1 = 4 ∧ (zb5 D1 ws).2.dead = true ∧ (zb5 D1 ws).2.wait = [] ∧ (zb5 D1 ws).2.left = none ∧ (zb5 D1 ws).2.keep = [] ∧ Mix D.on (pre ++ ws) (zb5 D1 ws).2.on)
 | [], D1, _, h1, h2, h3, h4, h5 => .inl ⟨rfl, h1, h2, by rw [bA]; exact h3, h4, h5⟩
 | p :: l, D1, hw, h1, h2, h3, h4, h5 => by
  obtain ⟨hp1, hp2⟩ := hw p (.head _)
  have ihl : qh5 D l := fun q hq => hw q (.tail _ hq)
  have hwf : zbz D1 p.1 p.2 = if (zgy D1).1 = 0 then (0, { (zgy D1).2 with wait := (zgy D1).2.wait ++ [(p.2, p.1)] }) else zgy D1 := by
   unfold zbz
   rw [h1, if_neg dQ, if_neg (by rw [h2]; exact fun h => h hp1), if_neg (by rw [hp2]; decide)]
  rw [zb5, hwf]
  unfold zgy
  cases hl : D1.left with
  | none =>
   simp only [if_true]
   have := zqw (D := D) (pre := pre ++ [p]) (ws := l) (D1 := { D1 with wait := D1.wait ++ [(p.2, p.1)] }) ihl h1 h2 (by simp [h3, swp]) h4 h5
   rw [aH] at this
   exact this
  | some n =>
   cases n with
   | zero =>
    right
    have hD : D.left ≠ none := fun h => by rw [h5 h] at hl; cases hl
    refine ⟨hD, ?_⟩
    refine ⟨rfl, rfl, rfl, rfl, rfl, ?_⟩
    have := zsz D.on pre (zin D1.keep) pre.length (aX _)
    show Mix D.on _ (ztm D1 D1.keep).on
    unfold ztm
    rw [h2, h3]
    show Mix D.on _ (zis D.on (swp pre) (zin D1.keep) (swp pre).length)
    rw [show (swp pre).length = pre.length by simp [swp]]
    exact this.more fun q hq => aK _ hq
   | succ n =>
    simp only [if_true]
    have := zqw (D := D) (pre := pre ++ [p]) (ws := l) (D1 := { D1 with left := some n, wait := D1.wait ++ [(p.2, p.1)] }) ihl h1 h2 (by simp [h3, swp]) h4 (fun h => by rw [h5 h] at hl; cases hl)
    rw [aH] at this
    exact this
theorem qeg {D : Dsk} (hr : D.Rest) {ws : List (Nat × Bys)} (hw : qh5 D ws) :
  ((zcu D ws).1 = 0 ∧ (zcu D ws).2.Rest ∧ (zcu D ws).2.on = zeb D.on ws ∧ (zcu D ws).2.keep = D.keep ∧ (D.left = none → (zcu D ws).2.left = none)) ∨
  (D.left ≠ none ∧ (zcu D ws).1 = 4 ∧ (zcu D ws).2.dead = true ∧ (zcu D ws).2.wait = [] ∧ (zcu D ws).2.left = none ∧ (zcu D ws).2.keep = [] ∧ Mix D.on ws (zcu D ws).2.on) := by
 have h0 := zqw (D := D) (pre := []) (D1 := D) hw hr.live rfl (by rw [hr.wait]; rfl) rfl id
 simp only [aI] at h0
 unfold zcu
 generalize zb5 D ws = r at h0 ⊢
 rcases h0 with ⟨a1, a2, a3, a4, a5, a6⟩ | ⟨b0, b1, b2, b3, b4, b5, b6⟩
 ·rw [if_pos a1]
  obtain ⟨r1, D1⟩ := r
  simp only at a1 a2 a3 a4 a5 a6 ⊢
  have hfl : zb6 D1 = if (zgy D1).1 = 0 then (0, zrp (zgy D1).2) else zgy D1 := by
   unfold zb6
   rw [a2, if_neg dQ]
  rw [hfl]
  unfold zgy
  have hlen : (swp ws).length = ws.length := by simp [swp]
  cases hl : D1.left with
  | none =>
   rw [if_pos rfl]
   refine .inl ⟨rfl, ⟨a2, rfl⟩, ?_, a5, fun _ => hl⟩
   show zis D1.on D1.wait (fun _ => true) D1.wait.length = _
   rw [a3, a4, hlen, zsy _ _ _ (aX _), gZ]
  | some n =>
   cases n with
   | zero =>
    right
    have hD : D.left ≠ none := fun h => by rw [a6 h] at hl; cases hl
    refine ⟨hD, ?_⟩
    refine ⟨rfl, rfl, rfl, rfl, rfl, ?_⟩
    show Mix D.on _ (zis D1.on D1.wait (zin D1.keep) D1.wait.length)
    rw [a3, a4, hlen]
    exact zsz D.on ws _ _ (aX _)
   | succ n =>
    rw [if_pos rfl]
    refine .inl ⟨rfl, ⟨a2, rfl⟩, ?_, a5, fun h => by rw [a6 h] at hl; cases hl⟩
    show zis D1.on D1.wait (fun _ => true) D1.wait.length = _
    rw [a3, a4, hlen, zsy _ _ _ (aX _), gZ]
 ·rw [if_neg (by rw [b1]; decide)]
  exact .inr ⟨b0, b1, b2, b3, b4, b5, b6⟩
theorem zfn {D : Dsk} (h : D.wait = []) (i : Nat) : zcf D i = D.on.getD i [] := by
 unfold zcf
 rw [h]
 rfl
theorem zfk : ∀ {ws : List (Nat × Bys)} {on : List Bys} {i : Nat}, (∀ p ∈ ws, p.1 ≠ i) → (zeb on ws)[i]? = on[i]?
 | [], _, _, _ => rfl
 | p :: l, on, i, h => by
  rw [zeb, zfk (fun q hq => h q (.tail _ hq)), fY (h p (.head _))]
end Go.Proofs.YtkkfifhaobjicaaGreatDoor
namespace Go.Proofs.YtkkfifhaobjicaaGreatDoor
open Go.RowKit Go.Eng
set_option maxRecDepth 100000
def wsC (g : Lg) (t : Bys) : List (Nat × Bys) := (qrk g.next t).map fun s => (zbg s.seq g.h.secs, zn3 s)
def ql0 (D : Dsk) (g : Lg) (t : Bys) : Nat × Dsk :=
 if g.h.secs < za9 t.length then (6, D) else if g.h.secs - g.used < za9 t.length then (5, D) else zcu D (wsC g t)
def qq6 (D : Dsk) (g : Lg) (t : Bys) : Lg := if (ql0 D g t).1 = 0 then { g with next := g.next + za9 t.length, used := g.used + za9 t.length } else g
theorem zqv : ∀ (l : List (Nat × Bys)) (D : Dsk) (p : Nat × Bys), zb5 D (l ++ [p]) = if (zb5 D l).1 = 0 then zbz (zb5 D l).2 p.1 p.2 else zb5 D l
 | [], D, p => by
  show (if (zbz D p.1 p.2).1 = 0 then (0, (zbz D p.1 p.2).2) else zbz D p.1 p.2) = zbz D p.1 p.2
  by_cases h : (zbz D p.1 p.2).1 = 0
  ·rw [if_pos h, ← h]
  ·rw [if_neg h]
 | q :: l, D, p => by
  rw [aE, zb5, zb5]
  by_cases h : (zbz D q.1 q.2).1 = 0
  ·rw [if_pos h, if_pos h, zqv l]
  ·rw [if_neg h, if_neg h, if_neg h]
theorem zoi : ∀ (l l' : List (Nat × Bys)) (D : Dsk), (zb5 D l).1 ≠ 0 → zb5 D (l ++ l') = zb5 D l
 | [], _, _, h => absurd rfl h
 | q :: l, l', D, h => by
  rw [aE, zb5, zb5]
  rw [zb5] at h
  by_cases h' : (zbz D q.1 q.2).1 = 0
  ·rw [if_pos h'] at h ⊢
   rw [if_pos h', zoi l l' _ h]
  ·rw [if_neg h', if_neg h']
theorem zje : ∀ (l : List (Nat × Bys)) (D : Dsk), D.Ok → (zb5 D l).2.Ok
 | [], _, h => h
 | q :: l, D, h => by
  rw [zb5]
  split
  ·exact zje l _ (qby h _ _)
  ·exact qby h _ _
theorem zjd : ∀ (l : List (Nat × Bys)) (D : Dsk), D.Ok → (zb5 D l).1 = 0 → (zb5 D l).2.keep = D.keep ∧ (zb5 D l).2.wait.length = D.wait.length + l.length
 | [], _, _, _ => ⟨rfl, rfl⟩
 | q :: l, D, h, h0 => by
  rw [zb5] at h0 ⊢
  by_cases h' : (zbz D q.1 q.2).1 = 0
  ·rw [if_pos h'] at h0 ⊢
   obtain ⟨h1, h2, h3, -⟩ := zl5 h q.1 q.2 h'
   obtain ⟨h4, h5⟩ := zjd l _ h1 h0
   refine ⟨h4.trans h2, ?_⟩
   rw [h5, h3]
   simp
   omega
  ·rw [if_neg h'] at h0
   exact absurd h0 h'
end Go.Proofs.YtkkfifhaobjicaaGreatDoor
namespace Go.Eng.Bm
def num (f : Nat → Bool) : Nat → Nat
 | 0 => 0
 | n + 1 => num f n + (bif f n then 2 ^ n else 0)
theorem zv8 (f : Nat → Bool) : ∀ n, num f n < 2 ^ n
 | 0 => by simp [num]
 | n + 1 => by
  have := zv8 f n
  simp only [num, gL]
  cases f n <;> simp <;> omega
theorem zcs (f : Nat → Bool) : ∀ n j, (num f n).testBit j = (decide (j < n) && f j)
 | 0, j => by simp [num]
 | n + 1, j => by
  have hlt := zv8 f n
  have ih := zcs f n j
  simp only [num]
  cases hf : f n
  ·simp only [cond_false, fH, ih]
   by_cases h : j < n
   ·simp [h, eO h]
   ·by_cases e : j = n
    ·subst e; simp [hf]
    ·simp only [h, decide_false, dL, show ¬ j < n + 1 by omega]
  ·simp only [cond_true]
   rw [gA]
   by_cases h : j < n
   ·rw [Nat.testBit_two_pow_add_gt h, ih]; simp [h, eO h]
   ·by_cases e : j = n
    ·subst e; rw [Nat.testBit_two_pow_add_eq, ih]; simp [hf]
    ·have h2 : 2 ^ n + num f n < 2 ^ j := bG (show 2 ^ n + num f n < 2 ^ (n + 1) by rw [gL]; omega) (cZ dQ oQ)
     rw [fA h2]
     simp [show ¬ j < n + 1 by omega]
theorem zv7 {f g : Nat → Bool} {n : Nat} (h : ∀ j, j < n → f j = g j) : num f n = num g n := eD fun j => by
 rw [zcs, zcs]
 by_cases hj : j < n
 ·rw [h j hj]
 ·simp [hj]
def upd (S : Nat → Bool) (i : Nat) (u : Bool) : Nat → Bool := fun j => if j = i then u else S j
def zqs (S : Nat → Bool) (k : Nat) : Nat := num (fun i => S (64 * k + i)) 64
def byte (S : Nat → Bool) (k : Nat) : Nat := num (fun i => S (8 * k + i)) 8
theorem zzu (S : Nat → Bool) (k : Nat) : zqs S k < 18446744073709551616 := zv8 _ 64
theorem qen (S : Nat → Bool) (k : Nat) : byte S k < 256 := zv8 _ 8
def clr (x j : Nat) : Nat := x &&& (18446744073709551615 ^^^ 2 ^ j)
def qoa (x j : Nat) (u : Bool) : Nat := bif u then clr x j ||| 2 ^ j else clr x j
theorem qot {x : Nat} (j : Nat) (h : x < 18446744073709551616) : clr x j < 18446744073709551616 := cI fW h
theorem qpr {j : Nat} (h : j < 64) : 2 ^ j < 18446744073709551616 := jA (n := 64) dQ h
theorem zib (i : Nat) : (18446744073709551615 : Nat).testBit i = decide (i < 64) := Nat.testBit_two_pow_sub_one 64 i
theorem zqf (x j i : Nat) (hx : x < 18446744073709551616) : (clr x j).testBit i = (if i = j then false else x.testBit i) := by
 unfold clr
 rw [kO, Nat.testBit_xor, zib, hM]
 by_cases hi : i < 64
 ·by_cases e : i = j
  ·subst e; simp [hi]
  ·simp [hi, e, Ne.symm e]
 ·have : x.testBit i = false := fA (bG hx (cZ (n := 2) (i := 64) dQ oQ))
  simp [this]
theorem zwy (x j i : Nat) (u : Bool) (hx : x < 18446744073709551616) : (qoa x j u).testBit i = (if i = j then u else x.testBit i) := by
 unfold qoa
 cases u
 ·simp only [cond_false]; exact zqf x j i hx
 ·simp only [cond_true]
  rw [kP, zqf x j i hx, hM]
  by_cases e : i = j
  ·subst e; simp
  ·simp [e, Ne.symm e]
theorem qg8 (S : Nat → Bool) (k j : Nat) (u : Bool) (hj : j < 64) : qoa (zqs S k) j u = zqs (upd S (64 * k + j) u) k := eD fun i => by
 rw [zwy _ _ _ _ (zzu S k)]
 unfold zqs
 rw [zcs, zcs]
 unfold upd
 by_cases e : i = j
 ·subst e; simp [hj]
 ·simp [e]
theorem zrd (S : Nat → Bool) (i k : Nat) (u : Bool) (h : k ≠ i / 64) : zqs (upd S i u) k = zqs S k := zv7 fun j hj => by
 unfold upd
 rw [if_neg oQ]
theorem zi8 (S : Nat → Bool) (k j : Nat) (hj : j < 64) : (zqs S k).testBit j = S (64 * k + j) := by
 unfold zqs; rw [zcs]; simp [hj]
def cnt (S : Nat → Bool) : Nat → Nat
 | 0 => 0
 | n + 1 => cnt S n + (S n).toNat
theorem qet (S : Nat → Bool) : ∀ n, cnt S n ≤ n
 | 0 => aX _
 | n + 1 => by have := qet S n; simp only [cnt]; cases S n <;> simp <;> omega
theorem qes (S : Nat → Bool) (a : Nat) : ∀ b, cnt S (a + b) = cnt S a + cnt (fun i => S (a + i)) b
 | 0 => rfl
 | b + 1 => by rw [← eH]; simp only [cnt]; rw [qes S a b]; omega
/-! ### Digits -/
def V (k : Nat) (g : Nat → Nat) : Nat → Nat
 | 0 => 0
 | n + 1 => g 0 + 2 ^ k * V k (fun i => g (i + 1)) n
def M (k : Nat) : Nat → Nat
 | 0 => 0
 | n + 1 => (2 ^ k - 1) + 2 ^ (2 * k) * M k n
theorem zoj {k : Nat} {g h : Nat → Nat} : ∀ {n : Nat}, (∀ i, i < n → g i = h i) → V k g n = V k h n := by
 intro n
 induction n generalizing g h with
 | zero => intro _; rfl
 | succ n ih => intro e; simp only [V]; rw [e 0 oQ, ih (g := fun i => g (i + 1)) (h := fun i => h (i + 1)) (fun i hi => e (i + 1) oQ)]
theorem qls {k : Nat} {g : Nat → Nat} : ∀ {n : Nat}, (∀ i, i < n → g i < 2 ^ k) → V k g n < 2 ^ (k * n) := by
 intro n
 induction n generalizing g with
 | zero => intro _; simp [V]
 | succ n ih =>
  intro e
  have h0 := e 0 oQ
  have h1 := ih (g := fun i => g (i + 1)) (fun i hi => e (i + 1) oQ)
  simp only [V]
  rw [Nat.mul_succ, iZ, Nat.mul_comm (2 ^ (k * n))]
  have : 2 ^ k * (V k (fun i => g (i + 1)) n + 1) ≤ 2 ^ k * 2 ^ (k * n) := fB _ h1
  rw [fJ] at this
  omega
theorem qh9 {k : Nat} {g h : Nat → Nat} : ∀ {n : Nat}, V k g n + V k h n = V k (fun i => g i + h i) n := by
 intro n
 induction n generalizing g h with
 | zero => rfl
 | succ n ih =>
  simp only [V]
  rw [← ih (g := fun i => g (i + 1)) (h := fun i => h (i + 1)), fJ]
  omega
theorem zol (s a b c d : Nat) (ha : a < 2 ^ s) (hc : c < 2 ^ s) : (a + 2 ^ s * b) &&& (c + 2 ^ s * d) = (a &&& c) + 2 ^ s * (b &&& d) := by
 have hac : a &&& c < 2 ^ s := cI fW ha
 rw [gA a, gA c, gA (a &&& c), gT ha, gT hc, gT hac]
 refine eD fun i => ?_
 simp only [kO, kP, Nat.testBit_two_pow_mul]
 by_cases hi : s ≤ i
 ·have e1 : a.testBit i = false := fA (bG ha (cZ dQ hi))
  have e2 : c.testBit i = false := fA (bG hc (cZ dQ hi))
  simp [hi, e1, e2]
 ·simp [hi]
theorem qfx (k a b : Nat) (ha : a < 2 ^ k) : (a + 2 ^ k * b) &&& (2 ^ k - 1) = a := by
 rw [eJ, Nat.add_mul_mod_self_left, aY ha]
theorem qk2 (k a b : Nat) (ha : a < 2 ^ k) (hb : b < 2 ^ k) : a + 2 ^ k * b < 2 ^ (2 * k) := by
 have e : 2 ^ (2 * k) = 2 ^ k * 2 ^ k := by rw [Nat.two_mul, iZ]
 have : 2 ^ k * (b + 1) ≤ 2 ^ k * 2 ^ k := fB _ hb
 rw [fJ] at this
 omega
theorem qfz (k : Nat) : 2 ^ k - 1 < 2 ^ (2 * k) := by
 have : 2 ^ k ≤ 2 ^ (2 * k) := cZ dQ oQ
 have := jG k
 omega
theorem ztd {k : Nat} : ∀ {n : Nat} {g : Nat → Nat}, (∀ i, i < 2 * n → g i < 2 ^ k) → V k g (2 * n) &&& M k n = V (2 * k) (fun i => g (2 * i)) n := by
 intro n
 induction n with
 | zero => intro g _; simp [V, M]
 | succ n ih =>
  intro g hg
  have e : 2 * (n + 1) = 2 * n + 1 + 1 := oQ
  rw [e]
  simp only [V, M]
  have h2 : g 0 + 2 ^ k * (g (0 + 1) + 2 ^ k * V k (fun i => g (i + 1 + 1)) (2 * n)) = (g 0 + 2 ^ k * g 1) + 2 ^ (2 * k) * V k (fun i => g (i + 1 + 1)) (2 * n) := by
   have e : 2 ^ (2 * k) = 2 ^ k * 2 ^ k := by rw [Nat.two_mul, iZ]
   rw [e, fJ, Nat.mul_assoc]; simp only [aF]; omega
  rw [h2, zol _ _ _ _ _ (qk2 k _ _ (hg 0 oQ) (hg 1 oQ)) (qfz k), qfx k _ _ (hg 0 oQ), ih (fun i hi => hg (i + 1 + 1) oQ)]
  rfl
theorem qga {k : Nat} : ∀ {n : Nat} {g : Nat → Nat}, (∀ i, i < 2 * n → g i < 2 ^ k) → (V k g (2 * n) / 2 ^ k) &&& M k n = V (2 * k) (fun i => g (2 * i + 1)) n := by
 intro n
 induction n with
 | zero => intro g _; simp [V, M]
 | succ n ih =>
  intro g hg
  have e : 2 * (n + 1) = 2 * n + 1 + 1 := oQ
  rw [e]
  simp only [V, M]
  have hp := jG k
  generalize hR : V k (fun i => g (i + 1 + 1)) (2 * n) = R
  have h2 : (g 0 + 2 ^ k * (g (0 + 1) + 2 ^ k * R)) / 2 ^ k = (g 1 + 2 ^ k * (R % 2 ^ k)) + 2 ^ (2 * k) * (R / 2 ^ k) := by
   rw [Nat.add_mul_div_left _ _ hp, iU (hg 0 oQ)]
   have e : 2 ^ (2 * k) = 2 ^ k * 2 ^ k := by rw [Nat.two_mul, iZ]
   have hd := Nat.mod_add_div R (2 ^ k)
   rw [e, Nat.mul_assoc, eH, ← fJ, hd]
   simp
  rw [h2, zol _ _ _ _ _ (qk2 k _ _ (hg 1 oQ) (eM _ hp)) (qfz k), qfx k _ _ (hg 1 oQ), ← hR, ih (fun i hi => hg (i + 1 + 1) oQ)]
  rfl
theorem qd6 {k : Nat} {g : Nat → Nat} (n : Nat) (h0 : g 0 < 2 ^ k) : V k g (n + 1) / 2 ^ k = V k (fun i => g (i + 1)) n := by
 simp only [V]
 rw [Nat.add_mul_div_left _ _ (jG k), iU h0]; simp
theorem qkn {k : Nat} : ∀ {n : Nat} {g : Nat → Nat}, V k g n = V k (fun i => if i < n then g i else 0) (n + 1) := by
 intro n
 induction n with
 | zero => intro g; simp [V]
 | succ n ih =>
  intro g
  rw [V, V, ih (g := fun i => g (i + 1))]
  have : V k (fun i => if i < n then g (i + 1) else 0) (n + 1) = V k (fun i => if i + 1 < n + 1 then g (i + 1) else 0) (n + 1) := zoj fun i _ => by
   by_cases h : i < n <;> simp [h]
  rw [this]
  simp
theorem zok {k : Nat} {g : Nat → Nat} (n : Nat) (h0 : g 0 < 2 ^ k) : V k g (n + 1) / 2 ^ k + V k g (n + 1) = V k (fun i => (if i < n then g (i + 1) else 0) + g i) (n + 1) := by
 rw [qd6 n h0, qkn, qh9]
theorem qrh (f : Nat → Bool) : ∀ n, num f n = V 1 (fun i => (f i).toNat) n := by
 have key : ∀ n (f : Nat → Bool), num f (n + 1) = (f 0).toNat + 2 * num (fun i => f (i + 1)) n := by
  intro n
  induction n with
  | zero => intro f; simp [num]; cases f 0 <;> rfl
  | succ n ih =>
   intro f
   rw [num, ih f, num]
   cases f (n + 1)
   ·simp
   ·simp [gL]; omega
 intro n
 induction n generalizing f with
 | zero => rfl
 | succ n ih => rw [key, V, ih (fun i => f (i + 1))]
theorem qia {k : Nat} : ∀ {j n : Nat} {g : Nat → Nat}, (∀ i, i < j → g i < 2 ^ k) → V k g (n + j) / 2 ^ (k * j) = V k (fun i => g (i + j)) n := by
 intro j
 induction j with
 | zero => intro n g _; simp
 | succ j ih =>
  intro n g hg
  rw [Nat.mul_succ, gA (k * j), iZ, ← Nat.div_div_eq_div_mul, ← eH, qd6 _ (hg 0 oQ), ih (fun i hi => hg (i + 1) oQ)]
  exact zoj fun i _ => by rw [eH]
theorem qok {k : Nat} {g : Nat → Nat} {n : Nat} : ∀ j, V k g n = V k (fun i => if i < n then g i else 0) (n + j)
 | 0 => zoj fun i hi => by rw [if_pos hi]
 | j + 1 => by
  rw [qok j, qkn (n := n + j), ← eH]
  exact zoj fun i hi => by by_cases h : i < n <;> simp [h]; omega
theorem zgf {k j n : Nat} {g : Nat → Nat} (hg : ∀ i, i < j → g i < 2 ^ k) : V k g (n + j) + V k g (n + j) / 2 ^ (k * j) = V k (fun i => g i + if i < n then g (i + j) else 0) (n + j) := by
 rw [qia hg, qok (n := n) (g := fun i => g (i + j)) j, qh9]
def qc9 (x : Nat) : Nat := (x / 2 &&& 6148914691236517205) + (x &&& 6148914691236517205)
def qd0 (x : Nat) : Nat := (x / 4 &&& 3689348814741910323) + (x &&& 3689348814741910323)
def qjr (x : Nat) : Nat := (x / 16 + x) &&& 1085102592571150095
theorem zul (b : Bool) : b.toNat ≤ 1 := by cases b <;> decide
def g1 (f : Nat → Bool) (i : Nat) : Nat := (f (2 * i + 1)).toNat + (f (2 * i)).toNat
def g2 (f : Nat → Bool) (i : Nat) : Nat := g1 f (2 * i + 1) + g1 f (2 * i)
def g3 (f : Nat → Bool) (i : Nat) : Nat := g2 f (2 * i + 1) + g2 f (2 * i)
theorem qir (f : Nat → Bool) (i : Nat) : g1 f i ≤ 2 := by have := zul (f (2 * i + 1)); have := zul (f (2 * i)); unfold g1; omega
theorem ztj (f : Nat → Bool) (i : Nat) : g2 f i ≤ 4 := by have := qir f (2 * i + 1); have := qir f (2 * i); unfold g2; omega
theorem qma (f : Nat → Bool) (i : Nat) : g3 f i ≤ 8 := by have := ztj f (2 * i + 1); have := ztj f (2 * i); unfold g3; omega
theorem qgp (f : Nat → Bool) : qc9 (num f 64) = V 2 (g1 f) 32 := by
 unfold qc9
 rw [qrh, show (6148914691236517205 : Nat) = M 1 32 from by decide]
 have h := fun i (_ : i < 2 * 32) => cI (zul (f i)) (show 1 < 2 ^ 1 by decide)
 have h1 := qga (k := 1) (n := 32) (g := fun i => (f i).toNat) h
 have h2 := ztd (k := 1) (n := 32) (g := fun i => (f i).toNat) h
 simp only [Nat.pow_one] at h1
 rw [h1, h2, qh9]
 rfl
theorem qgq (f : Nat → Bool) : qd0 (V 2 (g1 f) 32) = V 4 (g2 f) 16 := by
 unfold qd0
 rw [show (3689348814741910323 : Nat) = M 2 16 from by decide]
 have h := fun i (_ : i < 2 * 16) => cI (qir f i) (show 2 < 2 ^ 2 by decide)
 have h1 := qga (k := 2) (n := 16) (g := g1 f) h
 have h2 := ztd (k := 2) (n := 16) (g := g1 f) h
 rw [show (2 : Nat) ^ 2 = 4 from rfl] at h1
 rw [h1, h2, qh9]
 rfl
theorem qgr (f : Nat → Bool) : qjr (V 4 (g2 f) 16) = V 8 (g3 f) 8 := by
 unfold qjr
 rw [show (1085102592571150095 : Nat) = M 4 8 from dQ, show (16 : Nat) = 2 ^ 4 from rfl, show (2 : Nat) ^ 4 = 15 + 1 from rfl]
 have h0 : g2 f 0 < 2 ^ 4 := cI (ztj f 0) dQ
 have hs := zok (k := 4) (g := g2 f) 15 h0
 rw [show (2 : Nat) ^ 4 = 15 + 1 from rfl] at hs
 rw [hs]
 have h2 := ztd (k := 4) (n := 8) (g := fun i => (if i < 15 then g2 f (i + 1) else 0) + g2 f i) (fun i _ => by
  have := ztj f i; have := ztj f (i + 1)
  by_cases h : i < 15 <;> simp [h] <;> omega)
 rw [show 2 * 8 = 15 + 1 from rfl] at h2
 rw [h2]
 exact zoj fun i hi => by rw [if_pos oQ]; rfl
def qk5 (a : Nat) : Nat := a + a / 256
def qmw (a : Nat) : Nat := a + a / 65536
def qn9 (a : Nat) : Nat := a + a / 4294967296
def pop (x : Nat) : Nat := (qn9 (qmw (qk5 (qjr (qd0 (qc9 x)))))) &&& 127
theorem qmx (f : Nat → Bool) : pop (num f 64) = cnt f 64 := by
 have hg := qma f
 unfold pop qk5 qmw qn9
 rw [qgp, qgq, qgr]
 have e4 := zgf (k := 8) (j := 1) (n := 7) (g := g3 f) (fun i _ => cI (hg i) dQ)
 have e5 := zgf (k := 8) (j := 2) (n := 6) (g := fun i => g3 f i + if i < 7 then g3 f (i + 1) else 0) (fun i _ => by have := hg i; have := hg (i + 1); by_cases h : i < 7 <;> simp [h] <;> omega)
 have e6 := zgf (k := 8) (j := 4) (n := 4) (g := fun i => (g3 f i + if i < 7 then g3 f (i + 1) else 0) + if i < 6 then (g3 f (i + 2) + if i + 2 < 7 then g3 f (i + 2 + 1) else 0) else 0) (fun i _ => by
  have := hg i; have := hg (i + 1); have := hg (i + 2); have := hg (i + 2 + 1)
  by_cases h : i < 7 <;> by_cases h' : i < 6 <;> by_cases h'' : i + 2 < 7 <;> simp [h, h', h''] <;> omega)
 simp only [show (2 : Nat) ^ (8 * 1) = 256 from rfl] at e4
 simp only [show (2 : Nat) ^ (8 * 2) = 65536 from rfl] at e5
 simp only [show (2 : Nat) ^ (8 * 4) = 4294967296 from rfl] at e6
 simp only [show (7 + 1 : Nat) = 8 from rfl] at e4
 simp only [show (6 + 2 : Nat) = 8 from rfl] at e5
 simp only [show (4 + 4 : Nat) = 8 from rfl] at e6
 simp only [e4, e5, e6]
 have h127 := eJ (V 8 (fun i => ((g3 f i + if i < 7 then g3 f (i + 1) else 0) + if i < 6 then (g3 f (i + 2) + if i + 2 < 7 then g3 f (i + 2 + 1) else 0) else 0) + if i < 4 then ((g3 f (i + 4) + if i + 4 < 7 then g3 f (i + 4 + 1) else 0) + if i + 4 < 6 then (g3 f (i + 4 + 2) + if i + 4 + 2 < 7 then g3 f (i + 4 + 2 + 1) else 0) else 0) else 0) 8) 7
 rw [show (2 : Nat) ^ 7 - 1 = 127 from rfl] at h127
 rw [h127]
 rw [show (8 : Nat) = 7 + 1 from rfl, V]
 rw [show (2 : Nat) ^ (7 + 1) = 2 ^ 7 * 2 from rfl, Nat.mul_assoc, Nat.add_mul_mod_self_left]
 have := hg 0; have := hg 1; have := hg 2; have := hg 3; have := hg 4; have := hg 5; have := hg 6; have := hg 7
 simp only [aF, show (0 : Nat) < 7 from dQ, show (0 : Nat) < 6 from dQ, show (2 : Nat) < 7 from dQ, show (0 : Nat) < 4 from dQ, show (4 : Nat) < 7 from dQ, show (4 : Nat) < 6 from dQ, show (4 + 2 : Nat) < 7 from dQ, if_true, Nat.reduceAdd]
 rw [aY (by simp only [show (2 : Nat) ^ 7 = 128 from rfl]; omega)]
 clear e4 e5 e6 h127
 simp only [cnt, g3, g2, g1, Nat.reduceMul, Nat.reduceAdd]
 omega
theorem qda (f : Nat → Bool) : num f 64 < 18446744073709551616 ∧ qc9 (num f 64) < 18446744073709551616 ∧ qd0 (qc9 (num f 64)) < 18446744073709551616 ∧ qd0 (qc9 (num f 64)) / 16 + qd0 (qc9 (num f 64)) < 18446744073709551616 ∧ qjr (qd0 (qc9 (num f 64))) < 18446744073709551616 ∧ qk5 (qjr (qd0 (qc9 (num f 64)))) < 18446744073709551616 ∧ qmw (qk5 (qjr (qd0 (qc9 (num f 64))))) < 18446744073709551616 ∧ qn9 (qmw (qk5 (qjr (qd0 (qc9 (num f 64)))))) < 18446744073709551616 := by
 have hg := qma f
 unfold qk5 qmw qn9
 rw [qgp, qgq, qgr]
 have e4 := zgf (k := 8) (j := 1) (n := 7) (g := g3 f) (fun i _ => cI (hg i) dQ)
 have e5 := zgf (k := 8) (j := 2) (n := 6) (g := fun i => g3 f i + if i < 7 then g3 f (i + 1) else 0) (fun i _ => by have := hg i; have := hg (i + 1); by_cases h : i < 7 <;> simp [h] <;> omega)
 have e6 := zgf (k := 8) (j := 4) (n := 4) (g := fun i => (g3 f i + if i < 7 then g3 f (i + 1) else 0) + if i < 6 then (g3 f (i + 2) + if i + 2 < 7 then g3 f (i + 2 + 1) else 0) else 0) (fun i _ => by
  have := hg i; have := hg (i + 1); have := hg (i + 2); have := hg (i + 2 + 1)
  by_cases h : i < 7 <;> by_cases h' : i < 6 <;> by_cases h'' : i + 2 < 7 <;> simp [h, h', h''] <;> omega)
 simp only [show (2 : Nat) ^ (8 * 1) = 256 from rfl] at e4
 simp only [show (2 : Nat) ^ (8 * 2) = 65536 from rfl] at e5
 simp only [show (2 : Nat) ^ (8 * 4) = 4294967296 from rfl] at e6
 simp only [show (7 + 1 : Nat) = 8 from rfl] at e4
 simp only [show (6 + 2 : Nat) = 8 from rfl] at e5
 simp only [show (4 + 4 : Nat) = 8 from rfl] at e6
 simp only [e4, e5, e6]
 have b3 : V 4 (g2 f) 16 / 16 + V 4 (g2 f) 16 < 18446744073709551616 := by
  have h0 : g2 f 0 < 2 ^ 4 := cI (ztj f 0) dQ
  have hs := zok (k := 4) (g := g2 f) 15 h0
  simp only [show (2 : Nat) ^ 4 = 16 from rfl, show (15 + 1 : Nat) = 16 from rfl] at hs
  rw [hs]
  exact qls (k := 4) (n := 16) fun i _ => by
   have := ztj f i; have := ztj f (i + 1)
   by_cases h : i < 15 <;> simp [h] <;> omega
 refine ⟨zv8 f 64, qls (k := 2) (n := 32) fun i _ => cI (qir f i) dQ, qls (k := 4) (n := 16) fun i _ => cI (ztj f i) dQ, b3, qls (k := 8) (n := 8) fun i _ => cI (qma f i) dQ, qls (k := 8) (n := 8) fun i _ => ?_, qls (k := 8) (n := 8) fun i _ => ?_, qls (k := 8) (n := 8) fun i _ => ?_⟩
 ·have := hg i; have := hg (i + 1); by_cases h : i < 7 <;> simp [h] <;> omega
 ·have := hg i; have := hg (i + 1); have := hg (i + 2); have := hg (i + 2 + 1)
  by_cases h : i < 7 <;> by_cases h' : i < 6 <;> by_cases h'' : i + 2 < 7 <;> simp [h, h', h''] <;> omega
 ·have := hg i; have := hg (i + 1); have := hg (i + 2); have := hg (i + 2 + 1); have := hg (i + 4); have := hg (i + 4 + 1); have := hg (i + 4 + 2); have := hg (i + 4 + 2 + 1)
  have s1 : (if i < 7 then g3 f (i + 1) else 0) ≤ 8 := by split <;> omega
  have s2 : (if i + 2 < 7 then g3 f (i + 2 + 1) else 0) ≤ 8 := by split <;> omega
  have s3 : (if i < 6 then g3 f (i + 2) + (if i + 2 < 7 then g3 f (i + 2 + 1) else 0) else 0) ≤ 16 := by split <;> omega
  have s4 : (if i + 4 < 7 then g3 f (i + 4 + 1) else 0) ≤ 8 := by split <;> omega
  have s5 : (if i + 4 + 2 < 7 then g3 f (i + 4 + 2 + 1) else 0) ≤ 8 := by split <;> omega
  have s6 : (if i + 4 < 6 then g3 f (i + 4 + 2) + (if i + 4 + 2 < 7 then g3 f (i + 4 + 2 + 1) else 0) else 0) ≤ 16 := by split <;> omega
  have s7 : (if i < 4 then (g3 f (i + 4) + if i + 4 < 7 then g3 f (i + 4 + 1) else 0) + (if i + 4 < 6 then g3 f (i + 4 + 2) + (if i + 4 + 2 < 7 then g3 f (i + 4 + 2 + 1) else 0) else 0) else 0) ≤ 32 := by split <;> omega
  omega
theorem qe9 {x : Nat} (s : Nat) (h : x < 18446744073709551616) : x / 2 ^ s < 18446744073709551616 := cI (dK _ _) h
/-! ### The least bit -/
def tab64 : List Nat := [0, 1, 56, 2, 57, 49, 28, 3, 61, 58, 42, 50, 38, 29, 17, 4, 62, 47, 59, 36, 45, 43, 51, 22, 53, 39, 33, 30, 24, 18, 12, 5, 63, 55, 48, 27, 60, 41, 37, 16, 46, 35, 44, 21, 52, 32, 23, 11, 54, 26, 40, 15, 34, 20, 31, 10, 25, 14, 19, 9, 13, 8, 7, 6]
def qbf (t : Nat) : Nat := 2 ^ t * 285870213051353865 % 18446744073709551616 / 2 ^ 58
theorem qp6 : ∀ t, t < 64 → qbf t < 64 ∧ tab64.getD (qbf t) 0 = t := by decide +kernel
theorem qlv {x t : Nat} (hx : x < 18446744073709551616) (ht : x.testBit t = true) (hl : ∀ j, j < t → x.testBit j = false) : x &&& (18446744073709551616 - x) = 2 ^ t := by
 have ht64 : t < 64 := by
  rcases gK t 64 with h | h
  ·exact h
  ·have : x.testBit t = false := fA (bG hx (cZ (n := 2) (i := 64) dQ h))
   rw [this] at ht; cases ht
 have hmod : x % 2 ^ (t + 1) = 2 ^ t := eD fun j => by
  rw [Nat.testBit_mod_two_pow, hM]
  by_cases h1 : j < t
  ·simp [hl j h1]; omega
  ·by_cases h2 : j = t
   ·subst h2; simp [ht]
   ·simp [show ¬ j < t + 1 by omega]; omega
 have hq := Nat.mod_add_div x (2 ^ (t + 1))
 rw [hmod] at hq
 generalize hqq : x / 2 ^ (t + 1) = q at hq
 obtain ⟨m, hm⟩ : ∃ m, 64 = t + 1 + m := ⟨64 - (t + 1), oQ⟩
 have h64 : (18446744073709551616 : Nat) = 2 ^ (t + 1) * 2 ^ m := by rw [← iZ, ← hm]
 have hqm : q < 2 ^ m := by
  rw [← hqq]
  exact Nat.div_lt_of_lt_mul (by rw [← h64]; exact hx)
 have e : 18446744073709551616 - x = 2 ^ t + 2 ^ (t + 1) * (2 ^ m - (q + 1)) := by
  have e2 : 2 ^ (t + 1) = 2 ^ t + 2 ^ t := by rw [gL]; omega
  obtain ⟨r, hr⟩ : ∃ r, 2 ^ m = q + 1 + r := ⟨2 ^ m - (q + 1), oQ⟩
  rw [h64, hr, ← hq, show q + 1 + r - (q + 1) = r by omega]
  rw [fJ, fJ]
  omega
 have hlt : 2 ^ t < 2 ^ (t + 1) := jA dQ oQ
 conv => lhs; lhs; rw [← hq]
 rw [e, zol (t + 1) (2 ^ t) q (2 ^ t) (2 ^ m - (q + 1)) hlt hlt, Nat.and_self]
 have : q &&& (2 ^ m - (q + 1)) = 0 := eD fun j => by
  rw [kO, Nat.testBit_two_pow_sub_succ hqm]
  cases q.testBit j <;> simp
 rw [this]; simp
theorem qan (S : Nat → Bool) (k j : Nat) (hj : j < 64) : (18446744073709551615 ^^^ zqs S k).testBit j = !S (64 * k + j) := by
 rw [Nat.testBit_xor, zib, zi8 S k j hj]; simp [hj]
theorem qhu {S : Nat → Bool} {k : Nat} (h : ∀ j, j < 64 → S (64 * k + j) = true) : zqs S k = 18446744073709551615 := eD fun j => by
 rw [zib]
 unfold zqs
 rw [zcs]
 by_cases hj : j < 64
 ·simp [hj, h j hj]
 ·simp [hj]
theorem zw5 {S : Nat → Bool} {k j : Nat} (hj : j < 64) (h : S (64 * k + j) = false) : zqs S k ≠ 18446744073709551615 := fun e => by
 have := zi8 S k j hj
 rw [e, h, zib] at this
 simp [hj] at this
/-! ### Bytes -/
def zdo (S : Nat → Bool) (k : Nat) : Nat → Bool := fun i => decide (i < k) && S i
theorem qly (S : Nat → Bool) (k : Nat) (h : S k = true) : byte (zdo S k) (k / 8) ||| 2 ^ (k % 8) = byte (zdo S (k + 1)) (k / 8) := eD fun i => by
 rw [kP, hM]
 unfold byte
 rw [zcs, zcs]
 unfold zdo
 by_cases hi : i < 8
 ·by_cases e : 8 * (k / 8) + i = k
  ·have : k % 8 = i := oQ
   simp [e, h, this, hi]
  ·have h1 : ¬ k % 8 = i := oQ
   by_cases h2 : 8 * (k / 8) + i < k
   ·simp [h1, h2, eO h2]
   ·simp only [h1, h2, decide_false, dL, jM, Bool.or_false, show ¬ 8 * (k / 8) + i < k + 1 by omega]
 ·simp [hi]; omega
theorem zu4 (S : Nat → Bool) (k j : Nat) (h : j ≠ k / 8 ∨ S k = false) : byte (zdo S (k + 1)) j = byte (zdo S k) j := zv7 fun i hi => by
 unfold zdo
 by_cases e : 8 * j + i = k
 ·rcases h with h | h
  ·omega
  ·rw [e, h]; simp
 ·by_cases h2 : 8 * j + i < k
  ·simp [h2, eO h2]
  ·simp only [h2, decide_false, dL, show ¬ 8 * j + i < k + 1 by omega]
theorem zwx (S : Nat → Bool) (k j : Nat) (hj : j < 8) : (byte S k).testBit j = S (8 * k + j) := by
 unfold byte; rw [zcs]; simp [hj]
end Go.Eng.Bm
namespace Go.Proofs.YtkkfifhaobjicaaGreatDoor
open Go.RowKit Go.Eng Go.Eng.Bm
set_option maxRecDepth 100000
set_option maxHeartbeats 40000000
theorem zwc (c : Array Value) (n i : Int) (w : World) (hc : c[0]? = some (.int .i64 n)) :
  Pu Tryz.prog 58 #[.agg c, .int .i64 i] w (.bool (decide (0 ≤ i) && decide (i < n))) := by
 refine zbh [_, _] Tryz.func58 rfl rfl ?_
 simp only [zaa, Nat.reduceAdd]
 refine goA ?_
 refine zbt rfl rfl fun b hb => ?_
 refine goA ?_
 refine qmj 7 _ rfl (fun h => ?_) (fun h => ?_)
 ·refine goA ?_
  refine l_w rfl ((zcl rfl rfl (.head _) hc)) ?_
  refine goA ?_
  refine zcz rfl rfl ?_
  simp only [ge_iff_le] at h; rw [h]; rfl
 ·refine goA ?_
  refine zcz rfl rfl ?_
  simp only [ge_iff_le] at h; rw [h]; rfl
theorem qm2 (c : Array Value) (n i : Int) (u : Bool) (w : World) (hc : c[0]? = some (.int .i64 n)) (hs : c.size = 17) (h1 : zbx c.toList = true) (hi : (decide (0 ≤ i) && decide (i < n)) = false) :
  Pu Tryz.prog 59 #[.agg c, .int .i64 i, .bool u] w (.agg c) := by
 refine zbh [_, _, _] Tryz.func59 rfl rfl ?_
 simp only [zaa, Nat.reduceAdd]
 refine goA ?_
 refine zbt rfl rfl fun b hb => ?_
 refine goA ?_
 refine zal rfl rfl fun r hr => ?_
 refine goA ?_
 refine l_w rfl ((zdk rfl (by rw [hs]; rfl) (.tail _ (.head _)))) ?_
 refine goA ?_
 refine lPu rfl (fun w _ => zwc c n i w hc) ?_
 refine zcr 9 _ (.bool false) rfl (by rw [hi]) ?_
 refine goA ?_
 refine l_w rfl ((zdk rfl (by rw [hs]; rfl) (.tail _ (.head _)))) ?_
 refine zaz rfl (zag rfl rfl rfl (by rw [hs]; rfl) h1 hs) fun _ => ?_
 refine goA ?_
 exact zcz rfl ⟨_, rfl, zar (by rw [hs]; rfl) (.head _)⟩ rfl
theorem qpv (c : Array Value) (n k : Nat) (u : Bool) (w : World) (hc : c[0]? = some (.int .i64 n)) (hs : c.size = 17) (h1 : zbx c.toList = true) (hi : k < n) (hn : n ≤ 1024) (x : Nat) (hx : c[1 + k / 64]? = some (.int .u64 x)) (hx2 : x < 18446744073709551616) :
  Pu Tryz.prog 59 #[.agg c, .int .i64 k, .bool u] w (.agg (c.setIfInBounds (1 + k / 64) (.int .u64 (qoa x (k % 64) u)))) := by
 refine zbh [_, _, _] Tryz.func59 rfl rfl ?_
 simp only [zaa, Nat.reduceAdd]
 refine goA ?_
 refine zbt rfl rfl fun b hb => ?_
 refine goA ?_
 refine zal rfl rfl fun r hr => ?_
 refine goA ?_
 refine l_w rfl ((zdk rfl (by rw [hs]; rfl) (.tail _ (.head _)))) ?_
 refine goA ?_
 refine lPu rfl (fun w _ => zwc c n k w hc) ?_
 refine zcr 9 _ (.bool true) rfl (by simp; omega) ?_
 refine goA ?_
 refine qbb 11 kQ (fun _ h => h.drew) ?_
 have hk : k / 64 < 16 := oQ
 have hp : 2 ^ (k % 64) < 18446744073709551616 := qpr oQ
 have hpe : 1 * 2 ^ (k % 64) % 18446744073709551616 = 2 ^ (k % 64) := by rw [jZ, aY hp]
 (repeat first | (apply d_w [8] rfl rfl rfl kQ (fun _ h => h); focus (first | exact zdu rfl | exact zcb rfl | exact qbj rfl rfl | exact zc6 rfl rfl | exact zct rfl rfl | exact zem rfl rfl | exact zhb rfl rfl | exact zds rfl rfl | exact qbp rfl | exact zdt rfl rfl (by repeat first | exact .head _ | apply List.Mem.tail) | exact zcl rfl rfl (by repeat first | exact .head _ | apply List.Mem.tail) rfl | exact zdk rfl rfl (by repeat first | exact .head _ | apply List.Mem.tail) | exact zl0 rfl rfl rfl | ((first | refine zzo rfl rfl ?_ | refine zj5 rfl rfl rfl ?_ | refine zl1 rfl rfl rfl ?_ | refine qbu rfl rfl rfl ?_ | refine qbs rfl rfl rfl ?_ | refine qbt rfl rfl rfl ?_ | refine zl2 rfl rfl rfl rfl ?_ | refine qbo rfl rfl rfl rfl ?_ | refine qbn rfl rfl rfl ?_ | refine qbm rfl rfl rfl ?_); first | omega | assumption) | exact qbr rfl rfl (by first | omega | assumption | (simp; done) | exact fun h => h aQ | fail) | exact qbq rfl rfl (by first | omega | assumption | (simp; done) | exact fun h => h aQ | fail) | exact ze3 rfl rfl rfl)) | refine qh2 [8] rfl rfl rfl kQ (fun _ h => h) ?_ | refine d_T [8] rfl rfl rfl rfl (by first | omega | assumption | (simp; done) | exact fun h => h aQ | fail) ?_ | refine d_F [8] rfl rfl rfl rfl (by first | omega | assumption | (simp; done) | exact fun h => h aQ | fail) ?_)
 refine d_v [] rfl rfl kQ (fun _ h => h) rfl rfl (zcl rfl rfl (.tail _ (.head _)) hx) ?_
 (repeat first | (apply d_w [8] rfl rfl rfl kQ (fun _ h => h); focus (first | exact zdu rfl | exact zcb rfl | exact qbj rfl rfl | exact zc6 rfl rfl | exact zct rfl rfl | exact zem rfl rfl | exact zhb rfl rfl | exact zds rfl rfl | exact qbp rfl | exact zdt rfl rfl (by repeat first | exact .head _ | apply List.Mem.tail) | exact zcl rfl rfl (by repeat first | exact .head _ | apply List.Mem.tail) rfl | exact zdk rfl rfl (by repeat first | exact .head _ | apply List.Mem.tail) | exact zl0 rfl rfl rfl | ((first | refine zzo rfl rfl ?_ | refine zj5 rfl rfl rfl ?_ | refine zl1 rfl rfl rfl ?_ | refine qbu rfl rfl rfl ?_ | refine qbs rfl rfl rfl ?_ | refine qbt rfl rfl rfl ?_ | refine zl2 rfl rfl rfl rfl ?_ | refine qbo rfl rfl rfl rfl ?_ | refine qbn rfl rfl rfl ?_ | refine qbm rfl rfl rfl ?_); first | omega | assumption) | exact qbr rfl rfl (by first | omega | assumption | (simp; done) | exact fun h => h aQ | fail) | exact qbq rfl rfl (by first | omega | assumption | (simp; done) | exact fun h => h aQ | fail) | exact ze3 rfl rfl rfl)) | refine qh2 [8] rfl rfl rfl kQ (fun _ h => h) ?_ | refine d_T [8] rfl rfl rfl rfl (by first | omega | assumption | (simp; done) | exact fun h => h aQ | fail) ?_ | refine d_F [8] rfl rfl rfl rfl (by first | omega | assumption | (simp; done) | exact fun h => h aQ | fail) ?_)
 simp only [hpe]
 refine d_v [] rfl rfl kQ (fun _ h => h) rfl rfl (qdt rfl rfl hx2 hp) ?_
 (repeat refine d_ ?_)
 refine zdm ⟨kQ, kQ⟩ rfl rfl (zai (zce _ _ _) (zah rfl rfl rfl rfl rfl rfl oQ)) fun _ => ?_
 have hs' : ∀ v, (c.setIfInBounds (1 + k / 64) v).size = 17 := fun v => by simp [hs]
 have hx' : ∀ v : Value, (c.setIfInBounds (1 + k / 64) v)[1 + k / 64]? = some v := fun v => Array.getElem?_setIfInBounds_self_of_lt oQ
 have h1' : ∀ y : Nat, zbx (c.setIfInBounds (1 + k / 64) (.int .u64 y)).toList = true := fun y => by
  rw [za5] at h1 ⊢
  intro v hv
  rcases Array.mem_or_eq_of_mem_setIfInBounds (Array.mem_toList_iff.1 hv) with h | h
  ·exact h1 v (Array.mem_toList_iff.2 h)
  ·rw [h]; rfl
 refine goA ?_
 refine znp u rfl rfl (fun h => ?_) (fun h => ?_)
 ·refine goA ?_
  refine qbb 11 kQ (fun _ h => h.drew) ?_
  (repeat first | (apply d_w [8] rfl rfl rfl kQ (fun _ h => h); focus (first | exact zdu rfl | exact zcb rfl | exact qbj rfl rfl | exact zc6 rfl rfl | exact zct rfl rfl | exact zem rfl rfl | exact zhb rfl rfl | exact zds rfl rfl | exact qbp rfl | exact zdt rfl rfl (by repeat first | exact .head _ | apply List.Mem.tail) | exact zcl rfl rfl (by repeat first | exact .head _ | apply List.Mem.tail) rfl | exact zdk rfl rfl (by repeat first | exact .head _ | apply List.Mem.tail) | exact zl0 rfl rfl rfl | ((first | refine zzo rfl rfl ?_ | refine zj5 rfl rfl rfl ?_ | refine zl1 rfl rfl rfl ?_ | refine qbu rfl rfl rfl ?_ | refine qbs rfl rfl rfl ?_ | refine qbt rfl rfl rfl ?_ | refine zl2 rfl rfl rfl rfl ?_ | refine qbo rfl rfl rfl rfl ?_ | refine qbn rfl rfl rfl ?_ | refine qbm rfl rfl rfl ?_); first | omega | assumption) | exact qbr rfl rfl (by first | omega | assumption | (simp; done) | exact fun h => h aQ | fail) | exact qbq rfl rfl (by first | omega | assumption | (simp; done) | exact fun h => h aQ | fail) | exact ze3 rfl rfl rfl)) | refine qh2 [8] rfl rfl rfl kQ (fun _ h => h) ?_ | refine d_T [8] rfl rfl rfl rfl (by first | omega | assumption | (simp; done) | exact fun h => h aQ | fail) ?_ | refine d_F [8] rfl rfl rfl rfl (by first | omega | assumption | (simp; done) | exact fun h => h aQ | fail) ?_)
  refine d_v [] rfl rfl kQ (fun _ h => h) rfl rfl (zcl rfl rfl (.head _) (hx' _)) ?_
  (repeat first | (apply d_w [8] rfl rfl rfl kQ (fun _ h => h); focus (first | exact zdu rfl | exact zcb rfl | exact qbj rfl rfl | exact zc6 rfl rfl | exact zct rfl rfl | exact zem rfl rfl | exact zhb rfl rfl | exact zds rfl rfl | exact qbp rfl | exact zdt rfl rfl (by repeat first | exact .head _ | apply List.Mem.tail) | exact zcl rfl rfl (by repeat first | exact .head _ | apply List.Mem.tail) rfl | exact zdk rfl rfl (by repeat first | exact .head _ | apply List.Mem.tail) | exact zl0 rfl rfl rfl | ((first | refine zzo rfl rfl ?_ | refine zj5 rfl rfl rfl ?_ | refine zl1 rfl rfl rfl ?_ | refine qbu rfl rfl rfl ?_ | refine qbs rfl rfl rfl ?_ | refine qbt rfl rfl rfl ?_ | refine zl2 rfl rfl rfl rfl ?_ | refine qbo rfl rfl rfl rfl ?_ | refine qbn rfl rfl rfl ?_ | refine qbm rfl rfl rfl ?_); first | omega | assumption) | exact qbr rfl rfl (by first | omega | assumption | (simp; done) | exact fun h => h aQ | fail) | exact qbq rfl rfl (by first | omega | assumption | (simp; done) | exact fun h => h aQ | fail) | exact ze3 rfl rfl rfl)) | refine qh2 [8] rfl rfl rfl kQ (fun _ h => h) ?_ | refine d_T [8] rfl rfl rfl rfl (by first | omega | assumption | (simp; done) | exact fun h => h aQ | fail) ?_ | refine d_F [8] rfl rfl rfl rfl (by first | omega | assumption | (simp; done) | exact fun h => h aQ | fail) ?_)
  simp only [hpe]
  refine d_v [] rfl rfl kQ (fun _ h => h) rfl rfl (qqe rfl rfl (qot _ hx2) hp) ?_
  (repeat refine d_ ?_)
  refine zdm ⟨kQ, kQ⟩ rfl rfl (zah rfl rfl rfl rfl rfl rfl (by rw [hs']; omega)) fun _ => ?_
  refine goA ?_
  rw [Array.setIfInBounds_setIfInBounds]
  refine l_w rfl ((zdk rfl (by rw [hs']; rfl) (.head _))) ?_
  refine zaz rfl (zai (zce _ _ _) (zag rfl rfl rfl (by rw [hs']; rfl) (h1' _) (hs' _))) fun _ => ?_
  refine goA ?_
  exact zcz rfl ⟨_, rfl, zar (by rw [hs']; rfl) (.head _)⟩ (by rw [h]; rfl)
 ·refine goA ?_
  refine l_w rfl ((zdk rfl (by rw [hs']; rfl) (.head _))) ?_
  refine zaz rfl (zai (zce _ _ _) (zag rfl rfl rfl (by rw [hs']; rfl) (h1' _) (hs' _))) fun _ => ?_
  refine goA ?_
  exact zcz rfl ⟨_, rfl, zar (by rw [hs']; rfl) (.head _)⟩ (by rw [h]; rfl)
/-! ### Maps, by what is used -/
def qph (n : Nat) (S : Nat → Bool) : List Value := .int .i64 n :: (List.range 16).map (fun k => .int .u64 (zqs S k))
def zhn (n : Nat) (S : Nat → Bool) : Array Value := (qph n S).toArray
theorem za3 (n : Nat) (S : Nat → Bool) : (zhn n S).size = 17 := by simp [zhn, qph]
theorem zo6 (n : Nat) (S : Nat → Bool) : (zhn n S)[0]? = some (.int .i64 n) := by simp [zhn, qph]
theorem zmo (n : Nat) (S : Nat → Bool) {k : Nat} (hk : k < 16) : (zhn n S)[1 + k]? = some (.int .u64 (zqs S k)) := by
 simp only [zhn, qph, eP]
 rw [gA, List.getElem?_cons_succ, aN, dV hk]
 rfl
theorem zef (n : Nat) (S : Nat → Bool) : zbx (zhn n S).toList = true := by
 rw [za5]
 intro v hv
 simp only [zhn, qph, aJ, aT] at hv
 rcases hv with rfl | ⟨_, _, rfl⟩ <;> rfl
theorem qjb (n : Nat) (S : Nat → Bool) {k : Nat} (u : Bool) (hk : k < 1024) : (zhn n S).setIfInBounds (1 + k / 64) (.int .u64 (qoa (zqs S (k / 64)) (k % 64) u)) = zhn n (upd S k u) := by
 refine iB fun i => ?_
 rw [jC]
 have h16 : k / 64 < 16 := oQ
 have hw : qoa (zqs S (k / 64)) (k % 64) u = zqs (upd S k u) (k / 64) := by
  rw [qg8 _ _ _ _ oQ, show 64 * (k / 64) + k % 64 = k by omega]
 by_cases e : 1 + k / 64 = i
 ·subst e
  rw [if_pos rfl, if_pos (by rw [za3]; omega), zmo _ _ h16, hw]
 ·rw [if_neg e]
  by_cases h0 : i = 0
  ·subst h0; rw [zo6, zo6]
  ·by_cases h17 : i < 17
   ·obtain ⟨q, rfl⟩ : ∃ q, i = 1 + q := ⟨i - 1, oQ⟩
    rw [zmo _ _ oQ, zmo _ _ oQ, zrd _ _ _ _ oQ]
   ·rw [dE (by rw [za3]; omega), dE (by rw [za3]; omega)]
theorem qfy : zhn 0 (fun _ => false) = #[.int .i64 0, .int .u64 0, .int .u64 0, .int .u64 0, .int .u64 0, .int .u64 0, .int .u64 0, .int .u64 0, .int .u64 0, .int .u64 0, .int .u64 0, .int .u64 0, .int .u64 0, .int .u64 0, .int .u64 0, .int .u64 0, .int .u64 0] := by rfl
def onB (n : Nat) (i : Int) : Bool := decide (0 ≤ i) && decide (i < n)
def qd2 (n : Nat) (S : Nat → Bool) (i : Int) (u : Bool) : Nat → Bool := bif onB n i then upd S i.toNat u else S
theorem zmq (n : Nat) (S : Nat → Bool) (i : Int) (u : Bool) (hn : n ≤ 1024) (w : World) :
  Pu Tryz.prog 59 #[.agg (zhn n S), .int .i64 i, .bool u] w (.agg (zhn n (qd2 n S i u))) := by
 by_cases h : onB n i = true
 ·have h' := h
  simp only [onB, bH, decide_eq_true_eq] at h'
  obtain ⟨k, rfl⟩ := iF h'.1
  have := qpv (zhn n S) n k u w (zo6 n S) (za3 n S) (zef n S) oQ hn (zqs S (k / 64)) (zmo n S oQ) (zzu S _)
  rw [qjb n S u oQ] at this
  simp only [qd2, h, cond_true, bT]
  exact this
 ·have h : onB n i = false := by simpa using h
  have := qm2 (zhn n S) n i u w (zo6 n S) (za3 n S) (zef n S) h
  simp only [qd2, h, cond_false]
  exact this
theorem qf1 (n : Nat) (h : 1 ≤ n) (h' : n ≤ 1024) (w : World) : Pu Tryz.prog 74 #[.int .i64 n] w (.tuple #[.agg (zhn n (fun _ => false)), .int .i64 0]) := by
 refine zbh [_] Tryz.func74 rfl rfl ?_
 simp only [zaa]
 refine goA ?_
 refine zal rfl rfl fun b hb => ?_
 refine goA ?_
 refine zaz rfl (zag rfl rfl rfl rfl rfl rfl) fun _ => ?_
 refine goA ?_
 exact zhm rfl ⟨_, rfl, zar rfl (.head _)⟩ rfl rfl
theorem qig (S : Nat → Bool) (k : Nat) : Value.bool (((zqs S (k / 64) / 2 ^ (k % 64) % 2 : Nat) : Int) == 1) = .bool (S k) := by
 have h := zi8 S (k / 64) (k % 64) oQ
 rw [show 64 * (k / 64) + k % 64 = k by omega, iN] at h
 rw [← h]
 congr 1
 rw [dA]
 simp only [beq_iff_eq, decide_eq_true_eq]
 generalize zqs S (k / 64) / 2 ^ (k % 64) = q
 omega
theorem qmf (n : Nat) (S : Nat → Bool) (i : Int) (h : onB n i = false) (w : World) : Pu Tryz.prog 56 #[.agg (zhn n S), .int .i64 i] w (.bool true) := by
 refine zbh [_, _] Tryz.func56 rfl rfl ?_
 simp only [zaa, Nat.reduceAdd]
 refine goA ?_
 refine zbt rfl rfl fun b hb => ?_
 refine goA ?_
 refine lPu rfl (fun w _ => zwc _ n i w (zo6 n S)) ?_
 refine zcr 7 _ (.bool false) rfl (congrArg Value.bool h) ?_
 refine goA ?_
 exact zcz rfl rfl rfl
theorem qkz (n : Nat) (S : Nat → Bool) (k : Nat) (h : k < n) (hn : n ≤ 1024) (w : World) : Pu Tryz.prog 56 #[.agg (zhn n S), .int .i64 k] w (.bool (S k)) := by
 refine zbh [_, _] Tryz.func56 rfl rfl ?_
 simp only [zaa, Nat.reduceAdd]
 refine goA ?_
 refine zbt rfl rfl fun b hb => ?_
 refine goA ?_
 refine lPu rfl (fun w _ => zwc _ n k w (zo6 n S)) ?_
 refine zcr 7 _ (.bool true) rfl (by simp; omega) ?_
 have hk : k / 64 < 16 := oQ
 refine goA ?_
 refine l_w rfl ((zcl rfl rfl (.head _) (zmo n S hk))) ?_
 refine goA ?_
 refine l_w rfl (qhp rfl rfl) ?_
 refine goA ?_
 refine zcz rfl rfl ?_
 rw [qig S k]
def qme (n : Nat) (S : Nat → Bool) (i : Int) : Bool := !onB n i || S i.toNat
theorem zry (n : Nat) (S : Nat → Bool) (i : Int) (hn : n ≤ 1024) (w : World) : Pu Tryz.prog 56 #[.agg (zhn n S), .int .i64 i] w (.bool (qme n S i)) := by
 by_cases h : onB n i = true
 ·have h' := h
  simp only [onB, bH, decide_eq_true_eq] at h'
  obtain ⟨k, rfl⟩ := iF h'.1
  have := qkz n S k oQ hn w
  simp only [qme, h, iX, fP, bT]
  exact this
 ·have h : onB n i = false := by simpa using h
  have := qmf n S i h w
  simp only [qme, h, jN, kI]
  exact this
theorem qc3 (f : Nat → Bool) (w : World) : Pu Tryz.prog 73 #[.int .u64 (num f 64)] w (.int .i64 (cnt f 64)) := by
 obtain ⟨b0, b1, b2, b3, b4, b5, b6, b7⟩ := qda f
 have hp := qmx f
 unfold pop at hp
 generalize hx0 : num f 64 = x0 at *
 refine zbh [_] Tryz.func73 rfl rfl ?_
 simp only [zaa]
 refine zi7 (zeg ?_)
 (repeat (apply l_w rfl; focus (first | exact zdu rfl | exact zcb rfl | exact zhc rfl rfl dQ | exact zid rfl rfl aQ | exact zql rfl rfl aQ)))
 refine zkj (zf9 (zi7 (zeg ?_)))
 have c0 := qe9 1 b0
 have d0 : (x0 / 2 ^ 1 &&& 6148914691236517205) + (x0 &&& 6148914691236517205) < 18446744073709551616 := b1
 (repeat (apply l_w rfl; focus (first | exact zdu rfl | exact zcb rfl | exact zhc rfl rfl dQ | exact zid rfl rfl aQ | exact zql rfl rfl aQ)))
 refine zcr 0 _ (.int .u64 (qc9 x0)) rfl rfl ?_
 generalize qc9 x0 = x1 at *
 refine zkj (zf9 (zi7 (zeg ?_)))
 have c1 := qe9 2 b1
 have d1 : (x1 / 2 ^ 2 &&& 3689348814741910323) + (x1 &&& 3689348814741910323) < 18446744073709551616 := b2
 (repeat (apply l_w rfl; focus (first | exact zdu rfl | exact zcb rfl | exact zhc rfl rfl dQ | exact zid rfl rfl aQ | exact zql rfl rfl aQ)))
 refine zcr 0 _ (.int .u64 (qd0 x1)) rfl rfl ?_
 generalize qd0 x1 = x2 at *
 refine zkj (zf9 (zi7 (zeg ?_)))
 have d2 : x2 / 2 ^ 4 + x2 < 18446744073709551616 := b3
 (repeat (apply l_w rfl; focus (first | exact zdu rfl | exact zcb rfl | exact zhc rfl rfl dQ | exact zid rfl rfl aQ | exact zql rfl rfl aQ)))
 refine zcr 0 _ (.int .u64 (qjr x2)) rfl rfl ?_
 generalize qjr x2 = x3 at *
 refine zkj (zf9 (zi7 (zeg ?_)))
 have d3 : x3 + x3 / 2 ^ 8 < 18446744073709551616 := b5
 (repeat (apply l_w rfl; focus (first | exact zdu rfl | exact zcb rfl | exact zhc rfl rfl dQ | exact zid rfl rfl aQ | exact zql rfl rfl aQ)))
 refine zcr 0 _ (.int .u64 (qk5 x3)) rfl rfl ?_
 generalize qk5 x3 = x4 at *
 refine zkj (zf9 (zi7 (zeg ?_)))
 have d4 : x4 + x4 / 2 ^ 16 < 18446744073709551616 := b6
 (repeat (apply l_w rfl; focus (first | exact zdu rfl | exact zcb rfl | exact zhc rfl rfl dQ | exact zid rfl rfl aQ | exact zql rfl rfl aQ)))
 refine zcr 0 _ (.int .u64 (qmw x4)) rfl rfl ?_
 generalize qmw x4 = x5 at *
 refine zkj (zf9 (zi7 (zeg ?_)))
 have d5 : x5 + x5 / 2 ^ 32 < 18446744073709551616 := b7
 (repeat (apply l_w rfl; focus (first | exact zdu rfl | exact zcb rfl | exact zhc rfl rfl dQ | exact zid rfl rfl aQ | exact zql rfl rfl aQ)))
 refine zcr 0 _ (.int .u64 (qn9 x5)) rfl rfl ?_
 generalize qn9 x5 = x6 at *
 refine zkj (zf9 (zi7 (zeg ?_)))
 refine l_w rfl ((zdu rfl)) ?_
 refine l_w rfl ((ov fun _ _ _ _ _ => rfl)) ?_
 refine l_w rfl ((zsv (ov fun _ _ _ _ _ => rfl) (congrArg (Value.int .i64) (zyd x6 7 dQ)))) ?_
 refine goA ?_
 exact zcz rfl rfl (by rw [← hp])
/-! ### Used -/
def qbx (n : Nat) (S : Nat → Bool) : Array Value := (zhn n S).extract 1 17
theorem zw6 (n : Nat) (S : Nat → Bool) {k : Nat} (hk : k < 16) : (qbx n S)[k]? = some (.int .u64 (zqs S k)) := by
 unfold qbx
 rw [Array.getElem?_extract, if_pos (by rw [za3]; omega), zmo n S hk]
theorem zys (n : Nat) (S : Nat → Bool) (w : World) : Pu Tryz.prog 46 #[.agg (zhn n S)] w (.int .i64 (cnt S 1024)) := by
 refine zbh [_] Tryz.func46 rfl rfl ?_
 simp only [zaa]
 refine goA ?_
 refine zbt rfl rfl fun b hb => ?_
 refine goA ?_
 refine l_w rfl ((zzp (n := 16) rfl rfl (.head _) (by rw [za3]; omega))) ?_
 refine goA ?_
 refine zcp (α := Nat) (fun k => [(8, .int .i64 k), (3, .int .i64 (cnt S (64 * k))), (7, .agg (qbx n S))]) (fun k => k ≤ 16) (fun _ => []) (fun k => 16 - k) 0 ⟨rfl, rfl, rfl, trivial⟩ dQ Hp.none fun k hk => ?_
 have hc := qet S (64 * k)
 refine goA ?_
 refine znp _ rfl rfl (fun h => ?_) (fun h => ?_)
 ·have hk' : k < 16 := by simp at h; omega
  refine goA ?_
  refine l_w rfl ((zzn rfl rfl rfl rfl rfl hk' (zw6 n S hk'))) ?_
  refine goA ?_
  refine lPu rfl (fun w _ => qc3 _ w) ?_
  have hc2 := qet (fun i => S (64 * k + i)) 64
  refine goA ?_
  exact zav (k + 1) ⟨rfl, by rw [show 64 * (k + 1) = 64 * k + 64 by omega, qes]; rfl, rfl, trivial⟩ oQ Hp.none oQ
 ·obtain rfl : k = 16 := by simp at h; omega
  refine goA ?_
  exact zcz rfl rfl rfl
/-! ### The least bit -/
structure qb1 (w : World) : Prop where
 obj : w.heap[0]? = some (.cells (tab64.map fun n : Nat => Value.int .u8 n).toArray 173 (0, 0))
theorem qb1.at_ {w : World} (h : qb1 w) (j : Nat) (hj : j < 64) : w.cell? ⟨0, j, none⟩ = some (.int .u8 (tab64.getD j 0 : Nat)) := by
 have := za7 h.obj j (.int .u8 (tab64.getD j 0 : Nat)) (by
  rw [aN, aC, aB (show j < tab64.length from hj)]; rfl)
 rwa [aF] at this
theorem qb1.keep {w0 w : World} {m : List Eng.Item} (h : qb1 w0) (hw : Hp w0 none' m w) : qb1 w := ⟨(hw.fr.block _ (bC.1 h.obj).1 (fun h => h)).trans h.obj⟩
theorem qj8 (x t : Nat) (hx : x < 18446744073709551616) (ht : x.testBit t = true) (hl : ∀ j, j < t → x.testBit j = false) (w : World) (hw : qb1 w) : Pu Tryz.prog 57 #[.int .u64 x] w (.int .i64 t) := by
 have h0 : 0 < x := by
  rcases eS x with h | h
  ·subst h; simp at ht
  ·exact h
 have ht64 : t < 64 := by
  rcases gK t 64 with h | h
  ·exact h
  ·have : x.testBit t = false := fA (bG hx (cZ (n := 2) (i := 64) dQ h))
   rw [this] at ht; cases ht
 have hn := qlv hx ht hl
 obtain ⟨t1, t2⟩ := qp6 t ht64
 refine zbh [_] Tryz.func57 rfl rfl ?_
 simp only [zaa]
 refine goA ?_
 refine l_w rfl ((qnn rfl h0 hx)) ?_
 refine l_w rfl ((qhq rfl rfl hx)) ?_
 refine zcr 8 _ (.int .u64 (2 ^ t : Nat)) rfl (by rw [hn]) ?_
 refine l_w rfl ((qnl rfl rfl)) ?_
 refine l_w rfl ((zhc rfl rfl dQ)) ?_
 refine zcr 10 _ (.int .u64 (qbf t : Nat)) rfl rfl ?_
 refine l_w rfl ((qhr rfl rfl rfl t1)) ?_
 refine l_w rfl ((zay (v := .int .u8 t) rfl rfl fun w' hw' => ?_)) ?_
 ·have := (hw.keep hw').at_ (qbf t) t1
  rw [t2] at this
  simpa using this
 refine goA ?_
 exact zcz rfl rfl rfl
theorem qng (w : World) : Pu Tryz.prog 57 #[.int .u64 0] w (.int .i64 64) := by
 refine zbh [_] Tryz.func57 rfl rfl ?_
 simp only [zaa]
 refine goA ?_
 exact zcz rfl rfl rfl
/-! ### Find -/
theorem qct (n : Nat) (S : Nat → Bool) (a : Nat) (hn : n ≤ 1024) (ha : a < n) (hS : S a = false) (hl : ∀ j, j < a → S j = true) (w : World) (hw : qb1 w) :
  Pu Tryz.prog 31 #[.agg (zhn n S)] w (.tuple #[.int .i64 a, .bool true]) := by
 refine zbh [_] Tryz.func31 rfl rfl ?_
 simp only [zaa]
 refine goA ?_
 refine zbt rfl rfl fun b hb => ?_
 refine goA ?_
 refine l_w rfl ((zzp (n := 16) rfl rfl (.head _) (by rw [za3]; omega))) ?_
 refine goA ?_
 refine zcp (α := Nat) (fun k => [(1, .pointer (some ⟨b, 0, none⟩)), (9, .int .i64 k), (8, .agg (qbx n S))]) (fun k => k ≤ a / 64) (fun _ => [pt b (.cells (zhn n S) 82 (0, 0))]) (fun k => 16 - k) 0 ⟨rfl, rfl, rfl, trivial⟩ (aV _) (fun _ h => h) fun k hk => ?_
 refine goA ?_
 have hk' : k < 16 := oQ
 have hwl := zzu S k
 refine goA ?_
 refine l_w rfl ((zzn rfl rfl rfl rfl rfl hk' (zw6 n S hk'))) ?_
 refine goA ?_
 refine l_w rfl (qno rfl hwl) ?_
 refine goA ?_
 by_cases hka : k = a / 64
 ·have htz := qj8 (18446744073709551615 ^^^ zqs S k) (a % 64) (jS (n := 64) dQ hwl) (by rw [qan S k _ oQ, show 64 * k + a % 64 = a by omega, hS]; rfl) (fun j hj => by rw [qan S k _ oQ, hl _ oQ]; rfl)
  have hnf : zqs S k ≠ 18446744073709551615 := zw5 (j := a % 64) oQ (by rw [show 64 * k + a % 64 = a by omega, hS])
  refine lPu rfl (fun w' hw' => htz w' (hw.keep hw')) ?_
  refine l_w rfl ((qrt rfl rfl oQ)) ?_
  refine zcr 18 _ (.int .i64 a) rfl (by rw [show k * 64 + a % 64 = a by omega]) ?_
  refine goA ?_
  refine zcr 21 _ (.bool true) rfl (by congr 1) ?_
  refine goA ?_
  refine lPu rfl (fun w' _ => zwc _ n a w' (zo6 n S)) ?_
  refine zcr 24 _ (.bool true) rfl (by simp; omega) ?_
  refine goA ?_
  exact zhm rfl rfl rfl rfl
 ·have hf := qhu (S := S) (k := k) (fun j hj => hl _ oQ)
  rw [hf]
  refine lPu rfl (fun w' hw' => qng w') ?_
  refine goA ?_
  exact zav (k + 1) ⟨rfl, rfl, rfl, trivial⟩ oQ (fun _ h => h) oQ
/-! ### Bytes -/
def zgz (S : Nat → Bool) (k : Nat) : Array Value := ((List.range 512).map fun j => Value.int .u8 (byte (zdo S k) j : Nat)).toArray
theorem zgo (S : Nat → Bool) (k : Nat) : (zgz S k).size = 512 := by simp [zgz]
theorem zho (S : Nat → Bool) (k : Nat) {j : Nat} (hj : j < 512) : (zgz S k)[j]? = some (.int .u8 (byte (zdo S k) j : Nat)) := by
 simp only [zgz, eP]
 rw [aN, dV hj]; rfl
theorem zxo (S : Nat → Bool) : zgz S 0 = Array.replicate 512 (.int .u8 0) := by
 refine iB fun j => ?_
 by_cases hj : j < 512
 ·rw [zho S 0 hj]
  have : byte (zdo S 0) j = 0 := by
   refine eD fun i => ?_
   unfold byte; rw [zcs]; simp [zdo]
  rw [this]; simp [hj]
 ·rw [dE (by rw [zgo]; omega), dE (by simp; omega)]
theorem qeh (S : Nat → Bool) (k : Nat) (h : S k = false) : zgz S (k + 1) = zgz S k := by
 exact congrArg List.toArray (dD fun j _ => by rw [zu4 S k j (.inr h)])
theorem qb2 (S : Nat → Bool) (k : Nat) (hk : k < 4096) (h : S k = true) : (zgz S k).setIfInBounds (k / 8) (.int .u8 (byte (zdo S k) (k / 8) ||| 2 ^ (k % 8) : Nat)) = zgz S (k + 1) := by
 refine iB fun j => ?_
 rw [jC]
 by_cases e : k / 8 = j
 ·subst e
  rw [if_pos rfl, if_pos (by rw [zgo]; omega), zho _ _ oQ, qly S k h]
 ·rw [if_neg e]
  by_cases hj : j < 512
  ·rw [zho _ _ hj, zho _ _ hj, zu4 S k j (.inl (Ne.symm e))]
  ·rw [dE (by rw [zgo]; omega), dE (by rw [zgo]; omega)]
theorem zne (n : Nat) (S : Nat → Bool) (hn : n ≤ 1024) (w : World) :
  Ct Tryz.prog 60 #[.agg (zhn n S)] w none' (α := Nat) (fun c => .slice (some ⟨c, 0, none⟩) 512 512) (fun _ => True) (fun c => [pt c (.cells (zgz S n) 5 (0, 0))]) := by
 refine zfv [_] Tryz.func60 rfl rfl ?_
 simp only [zaa]
 refine goA ?_
 refine zbt rfl rfl fun b hb => ?_
 refine goA ?_
 refine qk1 rfl rfl rfl rfl rfl rfl dQ dQ fun c hc => ?_
 refine goA ?_
 refine zcp (α := Nat) (fun k => [(1, .pointer (some ⟨b, 0, none⟩)), (7, .int .i64 n), (8, .int .i64 k), (3, .slice (some ⟨c, 0, none⟩) 512 512)]) (fun k => k ≤ n) (fun k => [pt c (.cells (zgz S k) 5 (0, 0)), pt b (.cells (zhn n S) 82 (0, 0))]) (fun k => n - k) 0 ⟨rfl, rfl, rfl, rfl, trivial⟩ (aV _) (fun _ h => by rw [zxo]; exact h) fun k hk => ?_
 refine goA ?_
 refine znp _ rfl rfl (fun h => ?_) (fun h => ?_)
 ·have hk' : k < n := by simp at h; omega
  refine goA ?_
  refine lPu rfl (fun w' _ => qkz n S k hk' hn w') ?_
  refine goA ?_
  refine znp _ rfl rfl (fun hS => ?_) (fun hS => ?_)
  ·refine goA ?_
   have hk8 : k / 8 < 512 := oQ
   have hb8 := qen (zdo S k) (k / 8)
   have hp8 : 2 ^ (k % 8) < 256 := jA (n := 8) dQ oQ
   have hpe : 1 * 2 ^ (k % 8) % 256 = 2 ^ (k % 8) := by rw [jZ, aY hp8]
   refine qbb 10 kQ (fun _ h => h.drew) ?_
   (repeat refine d_ ?_)
   refine d_v [] rfl rfl kQ (fun _ h => h) rfl rfl (zcl rfl rfl (.head _) (by rw [aF]; exact zho S k hk8)) ?_
   (repeat first | (apply d_w [8] rfl rfl rfl kQ (fun _ h => h); focus (first | exact zdu rfl | exact zcb rfl | exact qbj rfl rfl | exact zc6 rfl rfl | exact zct rfl rfl | exact zem rfl rfl | exact zhb rfl rfl | exact zds rfl rfl | exact qbp rfl | exact zdt rfl rfl (by repeat first | exact .head _ | apply List.Mem.tail) | exact zcl rfl rfl (by repeat first | exact .head _ | apply List.Mem.tail) rfl | exact zdk rfl rfl (by repeat first | exact .head _ | apply List.Mem.tail) | exact zl0 rfl rfl rfl | ((first | refine zzo rfl rfl ?_ | refine zj5 rfl rfl rfl ?_ | refine zl1 rfl rfl rfl ?_ | refine qbu rfl rfl rfl ?_ | refine qbs rfl rfl rfl ?_ | refine qbt rfl rfl rfl ?_ | refine zl2 rfl rfl rfl rfl ?_ | refine qbo rfl rfl rfl rfl ?_ | refine qbn rfl rfl rfl ?_ | refine qbm rfl rfl rfl ?_); first | omega | assumption) | exact qbr rfl rfl (by first | omega | assumption | (simp; done) | exact fun h => h aQ | fail) | exact qbq rfl rfl (by first | omega | assumption | (simp; done) | exact fun h => h aQ | fail) | exact ze3 rfl rfl rfl)) | refine qh2 [8] rfl rfl rfl kQ (fun _ h => h) ?_ | refine d_T [8] rfl rfl rfl rfl (by first | omega | assumption | (simp; done) | exact fun h => h aQ | fail) ?_ | refine d_F [8] rfl rfl rfl rfl (by first | omega | assumption | (simp; done) | exact fun h => h aQ | fail) ?_)
   simp only [hpe]
   refine d_v [] rfl rfl kQ (fun _ h => h) rfl rfl (qry rfl rfl hb8 hp8) ?_
   (repeat refine d_ ?_)
   refine zdm ⟨kQ, kQ⟩ rfl rfl (zah rfl rfl rfl rfl rfl rfl (by rw [zgo]; omega)) fun _ => ?_
   refine goA ?_
   exact zav (k + 1) ⟨rfl, rfl, rfl, rfl, trivial⟩ oQ (fun _ h => by rw [aF, qb2 S k oQ hS] at h; exact h) oQ
  ·refine goA ?_
   exact zav (k + 1) ⟨rfl, rfl, rfl, rfl, trivial⟩ oQ (fun _ h => by rw [qeh S k hS]; exact h) oQ
 ·obtain rfl : k = n := by simp at h; omega
  refine goA ?_
  refine zbs c rfl rfl rfl trivial sQ (fun it hm => ?_)
  obtain rfl : it = pt c (.cells (zgz S k) 5 (0, 0)) := by simpa using hm
  exact zac _ _ _
abbrev noS : Nat → Bool := fun _ => false
def zg0 (bs : Nat → Nat) : Nat → Bool := fun i => (bs (i / 8)).testBit (i % 8)
theorem qek (bs : Nat → Nat) {i k : Nat} (hk : k < 8) : ((((bs i) / 2 ^ k % 2 : Nat) : Int) == 0) = !zg0 bs (8 * i + k) := by
 unfold zg0
 rw [show (8 * i + k) / 8 = i by omega, show (8 * i + k) % 8 = k by omega, iN, dA]
 generalize bs i / 2 ^ k = q
 simp
 omega
theorem qhn (f : Nat → Bool) (k : Nat) (h : f k = true) : upd (zdo f k) k true = zdo f (k + 1) := funext fun j => by
 unfold upd zdo
 by_cases e : j = k
 ·subst e; simp [h]
 ·by_cases h2 : j < k
  ·simp [e, h2, eO h2]
  ·simp only [if_neg e, h2, decide_false, dL, show ¬ j < k + 1 by omega]
theorem qj7 (f : Nat → Bool) (k : Nat) (h : f k = false) : zdo f k = zdo f (k + 1) := funext fun j => by
 unfold zdo
 by_cases e : j = k
 ·subst e; simp [h]
 ·by_cases h2 : j < k
  ·simp [h2, eO h2]
  ·simp only [h2, decide_false, dL, show ¬ j < k + 1 by omega]
theorem qdr (f : Nat → Bool) : zdo f 0 = fun _ => false := funext fun j => by simp [zdo]
theorem qjf (ba off cap : Nat) (bs : Nat → Nat) (n : Nat) (h1 : 1 ≤ n) (h2 : n ≤ 1024) (w : World) (hbs : ∀ i, i < 512 → w.cell? ⟨ba, off + i, none⟩ = some (.int .u8 (bs i : Nat))) (hf : ∀ j, j < 4096 → zg0 bs j = true → j < n) :
  Pu Tryz.prog 55 #[.slice (some ⟨ba, off, none⟩) 512 cap, .int .i64 n] w (.tuple #[.agg (zhn n (zdo (zg0 bs) 4096)), .int .i64 0]) := by
 refine zbh [_, _] Tryz.func55 rfl rfl ?_
 simp only [zaa, Nat.reduceAdd]
 refine goA ?_
 refine zal rfl rfl fun b hb => ?_
 refine goA ?_
 refine lPu rfl (fun w' _ => qf1 n h1 h2 w') ?_
 refine goA ?_
 refine zal rfl rfl fun b2 hb2 => ?_
 refine zaz rfl (zag rfl rfl rfl (by rw [za3]; rfl) (zef _ _) (by rw [za3]; rfl)) fun _ => ?_
 refine goA ?_
 refine zcp (α := Nat) (fun i => [(1, .int .i64 n), (4, .pointer (some ⟨b, 0, none⟩)), (6, .pointer (some ⟨b2, 0, none⟩)), (25, .slice (some ⟨ba, off, none⟩) 512 cap), (26, .int .i64 512), (27, .int .i64 i)]) (fun i => i ≤ 512) (fun i => [pt b2 (.cells (zhn n (zdo (zg0 bs) (8 * i))) 82 (0, 0)), pt b (.cells (zhn 0 noS) 82 (0, 0))]) (fun i => 512 - i) 0 ⟨rfl, rfl, rfl, rfl, rfl, rfl, trivial⟩ (aV _) (fun _ h => by rw [Nat.mul_zero, qdr, qfy]; exact h) fun i hi => ?_
 refine goA ?_
 refine znp _ rfl rfl (fun h => ?_) (fun h => ?_)
 ·have hi' : i < 512 := by simp at h; omega
  refine goA ?_
  refine l_w rfl ((ze2 rfl rfl (fun h => h) (hbs i hi'))) ?_
  refine goA ?_
  refine zcp (α := Nat) (fun k => [(1, .int .i64 n), (4, .pointer (some ⟨b, 0, none⟩)), (6, .pointer (some ⟨b2, 0, none⟩)), (25, .slice (some ⟨ba, off, none⟩) 512 cap), (26, .int .i64 512), (27, .int .i64 i), (8, .int .i64 i), (9, .int .u8 (bs i : Nat)), (32, .int .i64 k)]) (fun k => k ≤ 8) (fun k => [pt b2 (.cells (zhn n (zdo (zg0 bs) (8 * i + k))) 82 (0, 0)), pt b (.cells (zhn 0 noS) 82 (0, 0))]) (fun k => 8 - k) 0 ⟨rfl, rfl, rfl, rfl, rfl, rfl, rfl, rfl, rfl, trivial⟩ (aV _) (fun _ h => by rw [fH]; exact h) fun k hk => ?_
  refine goA ?_
  refine znp _ rfl rfl (fun h => ?_) (fun h => ?_)
  ·have hk' : k < 8 := by simp at h; omega
   refine goA ?_
   refine l_w rfl (qka rfl rfl) ?_
   refine goA ?_
   refine znp _ rfl rfl (fun h => ?_) (fun h => ?_)
   ·have hb0 : zg0 bs (8 * i + k) = false := by
     have := qek bs (i := i) hk'
     rw [show (((bs i / 2 ^ k % 2 : Nat) : Int) == 0) = true from h] at this
     simpa using this.symm
    refine goA ?_
    exact zav (k + 1) ⟨rfl, rfl, rfl, rfl, rfl, rfl, rfl, rfl, rfl, trivial⟩ oQ (fun _ h => by rw [← eH, ← qj7 _ _ hb0]; exact h) oQ
   ·have hb1 : zg0 bs (8 * i + k) = true := by
     have := qek bs (i := i) hk'
     rw [show (((bs i / 2 ^ k % 2 : Nat) : Int) == 0) = false from h] at this
     simpa using this.symm
    have hlt := hf (8 * i + k) oQ hb1
    refine goA ?_
    refine lPu rfl (fun w' _ => zmq n _ _ true h2 w') ?_
    have hset : qd2 n (zdo (zg0 bs) (8 * i + k)) ((8 * i + k : Nat) : Int) true = zdo (zg0 bs) (8 * i + k + 1) := by
     unfold qd2 onB
     rw [decide_eq_true (show (0 : Int) ≤ ((8 * i + k : Nat) : Int) by omega), decide_eq_true (show ((8 * i + k : Nat) : Int) < (n : Int) by omega)]
     simp only [Bool.and_self, cond_true, bT]
     exact qhn _ _ hb1
    rw [hset]
    refine zaz rfl (zag rfl rfl rfl (by rw [za3]; rfl) (zef _ _) (by rw [za3, za3])) fun _ => ?_
    refine goA ?_
    exact zav (k + 1) ⟨rfl, rfl, rfl, rfl, rfl, rfl, rfl, rfl, rfl, trivial⟩ oQ (fun _ h => h) oQ
  ·obtain rfl : k = 8 := by simp at h; omega
   refine goA ?_
   exact zav (i + 1) ⟨rfl, rfl, rfl, rfl, rfl, rfl, trivial⟩ oQ (fun _ h => h) oQ
 ·obtain rfl : i = 512 := by simp at h; omega
  refine goA ?_
  refine zaz rfl (zai (zce _ _ _) (zag rfl rfl rfl (by rw [za3]; rfl) (zef _ _) (by rw [za3, za3]))) fun _ => ?_
  refine goA ?_
  exact zhm rfl ⟨_, rfl, zar (by rw [za3]; rfl) (.head _)⟩ rfl rfl
end Go.Proofs.YtkkfifhaobjicaaGreatDoor
