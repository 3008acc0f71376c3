/- Maps keyed by whole numbers: making one, looking up, putting in, clearing, how many there are, and ranging over one in any order. -/
/- Ranging over a map keyed by whole numbers, in any order. -/
/- Items by their places; calls of function values that take items over. Own work; no condition. -/
import Derived.Test.YtkkfifhaobjicaaGreatDoorHb12
import Derived.Maps.Keyed
import Derived.Maps.RangeRun
import Derived.ChangeMaps5
import Derived.Test.YtkkfifhaobjicaaGreatDoorHb13
namespace Go.Eng
open Go.RowKit
set_option maxRecDepth 100000
variable {P : Program} {Q : Exit → Act → World → Prop} {N : Fm} {l : zat} {H : World → Prop} {ops : Array Oper} {rest : List Oper} {w0 : World} {F : Nat → Prop} {m m' : List Item} {ty : TypeId} {pos : String} {after : Array Edge} {g : Option (Nat × Bool)} {d : Nat}
abbrev zck := List (Nat × Value)
abbrev okN (q : IntKind) (n : Nat) : Prop := (Lit.int q (n : Int)).wf = true
def qew (q : IntKind) (p : Nat × Value) : Value × Value := (.int q (p.1 : Int), p.2)
structure Rows' (q : IntKind) (A : zck) (es : Array MapEntry) (clk : Nat) : Prop where
 nodup : (A.map (·.1)).Nodup
 ok : ∀ p ∈ A, okN q p.1
 rows : es.toList.map (fun e => (e.key, e.val)) = A.map (qew q)
 apart : (es.toList.map (·.born)).Nodup
 old : ∀ e ∈ es.toList, e.born < clk
def zd6 (q : IntKind) (b : Nat) (A : zck) : Item := ⟨fun k => k = b, fun w => ∃ es clk, w.heap[b]? = some (.map es clk) ∧ Rows' q A es clk⟩
theorem za6 (ro : Nat → Prop) (q : IntKind) (b : Nat) (A : zck) : (zd6 q b A).Stable ro := fun _ _ h ⟨es, clk, h3, h4⟩ => ⟨es, clk, (h b (.inr rfl)).trans h3, h4⟩
def zss (A : zck) (h : Nat) (v : Value) : zck := if (A.lookup h).isSome then A.map (fun p => if p.1 = h then (h, v) else p) else A ++ [(h, v)]
theorem zu9 {A : zck} {h : Nat} : (A.lookup h).isSome = true ↔ h ∈ A.map (·.1) := by
 induction A with
 | nil => simp
 | cons a A ih =>
  obtain ⟨x, y⟩ := a
  by_cases e : h = x
  ·subst e; simp [List.lookup]
  ·have : (h == x) = false := beq_eq_false_iff_ne.2 e
   simp only [List.lookup, this, ih, List.map_cons, List.mem_cons, e, false_or]
theorem qhi {A : zck} (hn : (A.map (·.1)).Nodup) {p : Nat × Value} (hp : p ∈ A) : A.lookup p.1 = some p.2 := by
 induction A with
 | nil => cases hp
 | cons a A ih =>
  obtain ⟨x, y⟩ := a
  rw [List.map_cons, List.nodup_cons] at hn
  rcases List.mem_cons.1 hp with rfl | hp
  ·simp [List.lookup]
  ·have hne : (p.1 == x) = false := by
    rw [beq_eq_false_iff_ne]
    exact fun e => hn.1 (List.mem_map.2 ⟨p, hp, e⟩)
   simp only [List.lookup, hne]
   exact ih hn.2 hp
theorem zpt (A : zck) (h : Nat) (v : Value) : (zss A h v).map (·.1) = if h ∈ A.map (·.1) then A.map (·.1) else A.map (·.1) ++ [h] := by
 unfold zss
 by_cases hm : h ∈ A.map (·.1)
 ·rw [if_pos (zu9.2 hm), if_pos hm, List.map_map]
  refine List.map_congr_left fun p _ => ?_
  simp only [Function.comp]
  split
  ·rename_i e; exact e.symm
  ·rfl
 ·rw [if_neg (fun hs => hm (zu9.1 hs)), if_neg hm, List.map_append]; rfl
theorem zxi {q : IntKind} {a b : Nat} (h : Value.int q (a : Int) = .int q (b : Int)) : a = b := by
 injection h with h1 h2; omega
theorem qjy {q : IntKind} {k : TypeId} (hk : P.underlying k = some (.int q)) {A : zck} {es : Array MapEntry} {clk : Nat} (R : Rows' q A es clk) {h : Nat} (hh : okN q h) (w : World) :
  ((Instr.findKey k (.int q (h : Int)) es.toList).run P w = .ok none w ∧ A.lookup h = none) ∨ ∃ j v, (Instr.findKey k (.int q (h : Int)) es.toList).run P w = .ok (some (j, v)) w ∧ A.lookup h = some v ∧ A[j]? = some (h, v) := by
 have KL := Maps.int_keyed hk
 have hkey := Maps.keyOf_int_mk hk hh
 have he := R.rows
 have hlen : es.toList.length = A.length := by have := congrArg List.length he; simpa using this
 have hat : ∀ (j : Nat) (hj : j < es.toList.length) (hj' : j < A.length), es.toList[j].key = .int q (A[j].1 : Int) ∧ es.toList[j].val = A[j].2 := fun j hj hj' => by
  have := congrArg (fun l => l[j]?) he
  simp only [List.getElem?_map, List.getElem?_eq_getElem hj, List.getElem?_eq_getElem hj', Option.map_some, Option.some.injEq, Prod.mk.injEq, qew] at this
  exact this
 have hall : ∀ e ∈ es.toList, ∃ l, keyOf P k e.key = some l := fun e hm => by
  obtain ⟨j, hj, rfl⟩ := List.getElem_of_mem hm
  rw [(hat j hj (by omega)).1]
  exact ⟨_, Maps.keyOf_int_mk hk (R.ok _ (List.getElem_mem _))⟩
 rcases KL.find w hkey es.toList hall with ⟨h1, h2⟩ | ⟨j, e, h1, h2, h3⟩
 ·refine .inl ⟨h1, ?_⟩
  rw [List.lookup_eq_none_iff]
  intro p hp
  obtain ⟨j, hj, rfl⟩ := List.getElem_of_mem hp
  have h4 := h2 _ (List.getElem_mem (show j < es.toList.length by omega))
  rw [(hat j (by omega) hj).1] at h4
  simp only [bne_iff_ne, ne_eq]
  exact fun e => h4 (by rw [e])
 ·have hj : j < es.toList.length := by
   rcases Nat.lt_or_ge j es.toList.length with hj | hj
   ·exact hj
   ·rw [List.getElem?_eq_none hj] at h2; cases h2
  rw [List.getElem?_eq_getElem hj] at h2
  injection h2 with h2
  have ha := hat j hj (by omega)
  rw [h2] at ha
  have hk2 : A[j].1 = h := zxi (ha.1.symm.trans h3)
  have hAj : A[j]? = some (h, e.val) := by
   rw [List.getElem?_eq_getElem (show j < A.length by omega), ha.2, ← hk2]
  refine .inr ⟨j, e.val, h1, ?_, hAj⟩
  exact qhi R.nodup (List.mem_of_getElem? hAj)
theorem zgd {q : IntKind} {T : TypeId} (hok : zfj N l (.makeMap T none) d = true) : HO P ⟨some d, .makeMap T none, ty, pos, after, g⟩ Q N l (Hp w0 F m) (α := { b : Nat // w0.heap.size ≤ b }) (fun b => (d, .map (some b.1)) :: l) (fun b => Hp w0 F (zd6 q b.1 [] :: m)) :=
 zhr (val := fun b : { b : Nat // w0.heap.size ≤ b } => .map (some b.1)) hok (fun w hw => by
  refine ⟨⟨w.heap.size, hw.fr.size⟩, w.alloc (.map #[] 0), ?_, (hw.alloc (.map #[] 0)).imp (fun k h => h) (fun h => ⟨#[], 0, h, ⟨.nil, (fun _ h => nomatch h), rfl, .nil, (fun _ h => nomatch h)⟩⟩) (za6 _ _ _ _)⟩
  simp [execOp, Instr.makeMap, newObj, Sem.run, Sem.run_bind])
section look
variable {q : IntKind} {x y z : Operand} {T k e : TypeId} {b : Nat} {A : zck} {h : Nat} {zv v : Value}
theorem zv0 (hk : P.underlying k = some (.int q)) (hT : P.underlying T = some (.map k e)) (hz : (P.info? e).bind (·.zero) = some zv) (hh : okN q h) (c : Bool) {w : World} (hp : (zd6 q b A).prop w) :
  (Instr.lookup T (.map (some b)) (.int q (h : Int)) c).run P w = .ok (if c then .tuple #[(A.lookup h).getD zv, .bool (A.lookup h).isSome] else (A.lookup h).getD zv) w := by
 obtain ⟨es, clk, h3, R⟩ := hp
 have hg : (getObj b).run P w = .ok (.map es clk) w := by simp [getObj, Sem.run, h3]
 have hc := (Maps.int_keyed hk).check w es.isEmpty (Maps.keyOf_int_mk hk hh)
 have hzr : (zeroValue e).run P w = .ok zv w := by
  cases hq : P.info? e with
  | none => simp [hq] at hz
  | some i =>
   have hz' : i.zero = some zv := by simpa [hq] using hz
   simp [zeroValue, typeInfo, hq, hz']
 simp only [Instr.lookup]
 simp only [Sem.run_bind, run_underlying hT w, Result.andThen_ok, hg]
 simp only [Sem.run_pure, Sem.run_bind, Result.andThen_ok, hc]
 rcases qjy hk R hh w with ⟨e1, e2⟩ | ⟨j, u, e1, e2, -⟩
 ·simp only [e1, Result.andThen_ok, e2, Option.getD_none, Option.isSome_none]
  simp only [Sem.run_bind, hzr, Result.andThen_ok, Sem.run_pure]
 ·simp only [e1, Result.andThen_ok, e2, Option.getD_some, Option.isSome_some, Sem.run_pure, Sem.run_bind]
theorem qfb (hk : P.underlying k = some (.int q)) (hx : evO l x = some (.map (some b))) (hy : evO l y = some (.int q (h : Int))) (hT : P.underlying T = some (.map k e)) (hz : (P.info? e).bind (·.zero) = some zv) (hh : okN q h) (hm : zd6 q b A ∈ m) :
  OV P (.lookup T x y true) ty l (Hp w0 F m) (.tuple #[(A.lookup h).getD zv, .bool (A.lookup h).isSome]) := ov fun _ _ _ w hw => by
 have := zv0 hk hT hz hh true (hw.item _ hm).1
 simp only [execOp, zax hx, zax hy, Sem.run_bind, this]; rfl
theorem qh7 (hk : P.underlying k = some (.int q)) (hx : evO l x = some (.map (some b))) (hy : evO l y = some (.int q (h : Int))) (hT : P.underlying T = some (.map k e)) (hz : (P.info? e).bind (·.zero) = some zv) (hh : okN q h) (hm : zd6 q b A ∈ m) :
  OV P (.lookup T x y false) ty l (Hp w0 F m) ((A.lookup h).getD zv) := ov fun _ _ _ w hw => by
 have := zv0 hk hT hz hh false (hw.item _ hm).1
 simp only [execOp, zax hx, zax hy, Sem.run_bind, this]; rfl
theorem qa5 (hk : P.underlying k = some (.int q)) (hT : P.underlying T = some (.map k e)) (hh : okN q h) {w : World} (hw : Hp w0 F (zd6 q b A :: m) w) :
  ∃ w', (Instr.mapUpdate T (.map (some b)) (.int q (h : Int)) v).run P w = .ok () w' ∧ Hp w0 F (zd6 q b (zss A h v) :: m) w' := by
 obtain ⟨es, clk, h3, R⟩ := (hw.item _ (.head _)).1
 have h4 := R.rows
 have hg : (getObj b).run P w = .ok (.map es clk) w := by simp [getObj, Sem.run, h3]
 have hset : ∀ o, (setObj b o).run P w = .ok () (w.putObj b o) := fun o => by simp [setObj, Sem.run, h3, World.putObj]
 have hkey := Maps.keyOf_int_mk hk hh
 have hc := (Maps.int_keyed hk).check w false hkey
 have hw1 : Hp w0 F (pt b (.map es clk) :: m) w := hw.imp (fun _ h => h) (fun _ => h3) (zac _ _ _)
 have hlen : es.toList.length = A.length := by have := congrArg List.length h4; simpa using this
 have hins : ∀ p ∈ zss A h v, okN q p.1 := fun p hp => by
  unfold zss at hp
  split at hp
  ·obtain ⟨r, hr, rfl⟩ := List.mem_map.1 hp
   split
   ·exact hh
   ·exact R.ok r hr
  ·rcases List.mem_append.1 hp with hp | hp
   ·exact R.ok p hp
   ·rw [List.mem_singleton] at hp; subst hp; exact hh
 have hnd : ((zss A h v).map (·.1)).Nodup := by
  rw [zpt]
  split
  ·exact R.nodup
  ·rename_i hm
   refine List.nodup_append.2 ⟨R.nodup, List.nodup_cons.2 ⟨by simp, .nil⟩, fun a ha c hc e => ?_⟩
   rw [List.mem_singleton] at hc
   subst hc; subst e; exact hm ha
 simp only [Instr.mapUpdate]
 simp only [Sem.run_bind, run_underlying hT w, Result.andThen_ok, hg]
 simp only [Sem.run_pure, Sem.run_bind, Result.andThen_ok, hc]
 rcases qjy hk R hh w with ⟨e1, e2⟩ | ⟨j, u, e1, e2, e3⟩
 ·simp only [e1, Result.andThen_ok, hset]
  refine ⟨_, rfl, (hw1.put _).imp (fun _ h => h) (fun hp => ⟨_, _, hp, ⟨hnd, hins, ?_, ?_, ?_⟩⟩) (za6 _ _ _ _)⟩
  ·have : zss A h v = A ++ [(h, v)] := by unfold zss; rw [if_neg (by rw [e2]; simp)]
   rw [this]
   simp [h4, qew]
  ·rw [Array.toList_push, List.map_append]
   refine List.nodup_append.2 ⟨R.apart, List.nodup_cons.2 ⟨by simp, .nil⟩, fun a ha c hc e => ?_⟩
   obtain ⟨x, hx, rfl⟩ := List.mem_map.1 ha
   have h1 := R.old x hx
   rw [List.map_singleton, List.mem_singleton] at hc
   subst hc
   omega
  ·intro x hx
   rw [Array.toList_push] at hx
   rcases List.mem_append.1 hx with hx | hx
   ·exact Nat.lt_succ_of_lt (R.old x hx)
   ·rw [List.mem_singleton] at hx; subst hx; exact Nat.lt_succ_self _
 ·have hj : j < es.size := by
   have := (List.getElem?_eq_some_iff.1 e3).1
   rw [← hlen] at this; simpa using this
  have hkj : es[j].key = .int q (h : Int) := by
   have := congrArg (fun l => l[j]?) h4
   simp only [List.getElem?_map, e3, Option.map_some] at this
   have h5 : es.toList[j]? = some es[j] := by simp [hj]
   rw [h5] at this
   simp only [Option.map_some, Option.some.injEq, Prod.mk.injEq, qew] at this
   exact this.1
  have hst : (Instr.keyThatStays (((es[j]?).map (·.key)).getD (.int q (h : Int))) (.int q (h : Int))).run P w = .ok (.int q (h : Int)) w := by
   rw [Array.getElem?_eq_getElem hj, Option.map_some, Option.getD_some, hkj]
   exact (Maps.int_keyed hk).stays w hkey
  simp only [e1, Result.andThen_ok, Sem.run_bind, hst, hset]
  have hborn : (es.modify j fun e => { e with key := .int q (h : Int), val := v }).toList.map (·.born) = es.toList.map (·.born) := by
   apply List.ext_getElem?
   intro i
   simp only [List.getElem?_map]
   rw [Array.getElem?_toList, Array.getElem?_modify, Array.getElem?_toList]
   split
   ·cases es[i]? <;> rfl
   ·rfl
  refine ⟨_, rfl, (hw1.put _).imp (fun _ h => h) (fun hp => ⟨_, _, hp, ⟨hnd, hins, ?_, by rw [hborn]; exact R.apart, ?_⟩⟩) (za6 _ _ _ _)⟩
  ·have : zss A h v = A.map (fun p => if p.1 = h then (h, v) else p) := by unfold zss; rw [if_pos (by rw [e2]; simp)]
   rw [this]
   apply List.ext_getElem?
   intro i
   have hi4 := congrArg (fun l => l[i]?) h4
   simp only [List.getElem?_map] at hi4 ⊢
   rw [Array.getElem?_toList, Array.getElem?_modify]
   by_cases hij : j = i
   ·subst hij
    rw [if_pos rfl, e3, Array.getElem?_eq_getElem hj]
    simp [qew]
   ·rw [if_neg hij, ← Array.getElem?_toList, hi4]
    cases hA : A[i]? with
    | none => rfl
    | some p =>
     simp only [Option.map_some]
     have hne : p.1 ≠ h := fun e => by
      have hi := (List.getElem?_eq_some_iff.1 hA).1
      have hj2 := (List.getElem?_eq_some_iff.1 e3).1
      have h6 : (A.map (·.1))[i]'(by simpa using hi) = (A.map (·.1))[j]'(by simpa using hj2) := by
       simp only [List.getElem_map]
       rw [(List.getElem?_eq_some_iff.1 hA).2, (List.getElem?_eq_some_iff.1 e3).2]
       exact e
      rcases Nat.lt_or_gt_of_ne hij with hlt2 | hlt2
      ·exact List.pairwise_iff_getElem.1 R.nodup j i (by simpa using hj2) (by simpa using hi) hlt2 h6.symm
      ·exact List.pairwise_iff_getElem.1 R.nodup i j (by simpa using hi) (by simpa using hj2) hlt2 h6
     rw [if_neg hne]
  ·intro x hx
   have : x.born ∈ es.toList.map (·.born) := by rw [← hborn]; exact List.mem_map.2 ⟨x, hx, rfl⟩
   obtain ⟨y, hy, hxy⟩ := List.mem_map.1 this
   rw [← hxy]; exact R.old y hy
theorem zjd (hk : P.underlying k = some (.int q)) (hok : (zg7 (.mapUpdate T x y z) && zem l (.mapUpdate T x y z)) = true) (hx : evO l x = some (.map (some b))) (hy : evO l y = some (.int q (h : Int))) (hz : evO l z = some v) (hT : P.underlying T = some (.map k e)) (hh : okN q h) :
  HO P ⟨none, .mapUpdate T x y z, ty, pos, after, g⟩ Q N l (Hp w0 F (zd6 q b A :: m)) (α := Unit) (fun _ => l) (fun _ => Hp w0 F (zd6 q b (zss A h v) :: m)) :=
 zug hok (fun w hw => by
  obtain ⟨w', h1, h2⟩ := qa5 (v := v) hk hT hh hw
  refine ⟨(), w', ?_, h2⟩
  simp only [execOp, zax hx, zax hy, zax hz, Sem.run_bind, h1]; rfl)
end look
variable {P : Program} {Q : Exit → Act → World → Prop} {N : Fm} {l : zat} {H : World → Prop} {ops : Array Oper} {rest : List Oper} {w0 : World} {F : Nat → Prop} {m m' : List Item} {ty : TypeId} {pos : String} {after : Array Edge} {g : Option (Nat × Bool)} {d : Nat}
def itN (q : IntKind) (r b : Nat) (A L : zck) (c : Option (Nat × Value)) : Item := ⟨fun k => k = r ∨ k = b, fun w => r ≠ b ∧ ∃ es clk since c0 seen, w.heap[b]? = some (.map es clk) ∧ Rows' q A es clk ∧ w.heap[r]? = some (.mapIter (some b) since seen c0) ∧
 (∀ e ∈ es.toList, e.born < since) ∧ (since ≤ c0 ∧ since ≤ clk) ∧ ((leftOf es seen).toList.map fun e => (e.key, e.val)) = L.map (qew q) ∧ L.Sublist A ∧
 ∀ p, c = some p → ∃ (seen' : Array Nat) (e : MapEntry), seen = seen'.push e.born ∧ e ∈ es.toList ∧ c0 = clk ∧ (e.key, e.val) = qew q p⟩
theorem zr7 (ro : Nat → Prop) (q : IntKind) (r b : Nat) (A L : zck) (c : Option (Nat × Value)) : (itN q r b A L c).Stable ro := fun _ _ h ⟨h0, es, clk, since, c0, seen, h1, h2, h3, h4⟩ => ⟨h0, es, clk, since, c0, seen, (h b (.inr (.inr rfl))).trans h1, h2, (h r (.inr (.inl rfl))).trans h3, h4⟩
theorem zyq {α β : Type} {f : α → β} : ∀ {l : List α}, (l.map f).Nodup → ∀ {x y : α}, x ∈ l → y ∈ l → f x = f y → x = y
 | [], _, _, _, h, _, _ => nomatch h
 | a :: l, hn, x, y, hx, hy, he => by
  rw [List.map_cons, List.nodup_cons] at hn
  rcases List.mem_cons.1 hx with h1 | hx
  ·rcases List.mem_cons.1 hy with h2 | hy
   ·rw [h1, h2]
   ·exact absurd (List.mem_map.2 ⟨y, hy, by rw [← he, h1]⟩) hn.1
  ·rcases List.mem_cons.1 hy with h2 | hy
   ·exact absurd (List.mem_map.2 ⟨x, hx, by rw [he, h2]⟩) hn.1
   ·exact zyq hn.2 hx hy he
theorem Rows'.keys {q : IntKind} {A : zck} {es : Array MapEntry} {clk : Nat} (R : Rows' q A es clk) : (es.toList.map (·.key)).Nodup := by
 have h : es.toList.map (·.key) = A.map fun p => Value.int q (p.1 : Int) := by
  have := congrArg (List.map Prod.fst) R.rows
  rw [List.map_map, List.map_map] at this
  exact this
 rw [h]
 have hn := R.nodup
 clear h R
 induction A with
 | nil => exact .nil
 | cons a A ih =>
  rw [List.map_cons, List.nodup_cons] at hn ⊢
  refine ⟨fun hm => hn.1 ?_, ih hn.2⟩
  obtain ⟨p, hp, he⟩ := List.mem_map.1 hm
  exact List.mem_map.2 ⟨p, hp, zxi he⟩
theorem qi1 (es : Array MapEntry) : leftOf es #[] = es := by
 unfold leftOf
 exact Array.filter_eq_self.2 (by simp)
theorem zzr {q : IntKind} {x : Operand} {T k e : TypeId} {b : Nat} {A : zck} (hok : zfj N l (.range T x) d = true) (hx : evO l x = some (.map (some b))) (hT : P.underlying T = some (.map k e)) :
  HO P ⟨some d, .range T x, ty, pos, after, g⟩ Q N l (Hp w0 F (zd6 q b A :: m)) (α := { r : Nat // w0.heap.size ≤ r }) (fun r => (d, .pointer (some ⟨r.1, 0, none⟩)) :: l) (fun r => Hp w0 F (itN q r.1 b A A none :: m)) :=
 zhr (val := fun r : { r : Nat // w0.heap.size ≤ r } => .pointer (some ⟨r.1, 0, none⟩)) hok (fun w hw => by
  obtain ⟨es, clk, h1, R⟩ := (hw.item _ (.head _)).1
  have hlt : b < w.heap.size := (Array.getElem?_eq_some_iff.1 h1).1
  have hrun := run_range_map (P := P) w T k e b es clk hT h1
  refine ⟨⟨w.heap.size, hw.fr.size⟩, w.alloc (.mapIter (some b) clk #[] clk), ?_, ?_⟩
  ·simp only [execOp, zax hx, Sem.run_bind, hrun]; rfl
  ·have h2 := hw.alloc (.mapIter (some b) clk #[] clk)
   have a1 := h2.item _ (.head _)
   have a2 := h2.item _ (.tail _ (.head _))
   obtain ⟨p1, p2⟩ := List.pairwise_cons.1 h2.apart
   obtain ⟨p3, p4⟩ := List.pairwise_cons.1 p2
   refine ⟨h2.fr, fun it hm => ?_, List.pairwise_cons.2 ⟨fun y hy k' hk hk' => ?_, p4⟩⟩
   ·rcases List.mem_cons.1 hm with rfl | hm
    ·refine ⟨⟨Nat.ne_of_gt hlt, es, clk, clk, clk, #[], ?_, R, a1.1, R.old, ⟨Nat.le_refl _, Nat.le_refl _⟩, ?_, List.Sublist.refl _, fun p h => by cases h⟩, zr7 _ _ _ _ _ _ _, fun k' hk => ?_⟩
     ·have := Below.heap_alloc w (.mapIter (some b) clk #[] clk) b hlt
      rw [this]; exact h1
     ·rw [qi1]; exact R.rows
     ·rcases hk with rfl | rfl
      ·exact a1.2.2 _ rfl
      ·exact a2.2.2 _ rfl
    ·exact h2.item it (.tail _ (.tail _ hm))
   ·rcases hk with rfl | rfl
    ·exact p1 y (.tail _ hy) _ rfl hk'
    ·exact p3 y hy _ rfl hk')
theorem zw2 {q : IntKind} {r b : Nat} {A L : zck} {c : Option (Nat × Value)} {w : World} (hw : Hp w0 F (itN q r b A L c :: m) w) : Hp w0 F (zd6 q b A :: m) w :=
 hw.imp (fun _ h => .inr h) (fun ⟨_, es, clk, _, _, _, h1, h2, _⟩ => ⟨es, clk, h1, h2⟩) (za6 _ _ _ _)
def qcr (L : zck) (p : Nat × Value) : zck := L.filter fun x => decide (x.1 ≠ p.1)
theorem qem (es : Array MapEntry) (seen : Array Nat) (b : Nat) : (leftOf es (seen.push b)).toList = (leftOf es seen).toList.filter fun e => !(e.born == b) := by
 unfold leftOf
 rw [Array.toList_filter, Array.toList_filter, List.filter_filter]
 refine List.filter_congr fun x _ => ?_
 rw [contains_push]
 cases seen.contains x.born <;> cases (x.born == b) <;> rfl
theorem zqf {q : IntKind} {p : Nat × Value} : ∀ {X : List MapEntry} {L : zck}, (X.map fun e => (e.key, e.val)) = L.map (qew q) → ∀ (f : MapEntry → Bool), (∀ e ∈ X, f e = true ↔ e.key ≠ .int q (p.1 : Int)) → ((X.filter f).map fun e => (e.key, e.val)) = (qcr L p).map (qew q)
 | [], [], _, _, _ => rfl
 | [], _ :: _, h, _, _ => by cases h
 | _ :: _, [], h, _, _ => by cases h
 | x :: X, y :: L, h, f, hf => by
  rw [List.map_cons, List.map_cons] at h
  injection h with h1 h2
  have ih := zqf (p := p) h2 f fun e he => hf e (by simp [he])
  have hx := hf x (by simp)
  have hk : x.key = .int q (y.1 : Int) := congrArg Prod.fst h1
  unfold qcr at ih ⊢
  by_cases e : y.1 = p.1
  ·have h3 : f x = false := by
    cases hc : f x with
    | false => rfl
    | true => exact absurd (by rw [hk, e]) (hx.1 hc)
   rw [List.filter_cons_of_neg (by simp [h3]), List.filter_cons_of_neg (by simp [e])]
   exact ih
  ·have h3 : f x = true := hx.2 fun h => e (zxi (hk.symm.trans h))
   rw [List.filter_cons_of_pos h3, List.filter_cons_of_pos (by simp [e]), List.map_cons, List.map_cons, h1, ih]
theorem qdv {q : IntKind} {x : Operand} {r b : Nat} {A L : zck} {c : Option (Nat × Value)} (hok : zfj N l (.next x false) d = true) (hx : evO l x = some (.pointer (some ⟨r, 0, none⟩))) :
  HO P ⟨some d, .next x false, ty, pos, after, g⟩ Q N l (Hp w0 F (itN q r b A L c :: m)) (α := { y : Option (Nat × Value) // match y with | none => L = [] | some p => p ∈ L })
   (fun y => (d, match y.1 with | none => .tuple #[.bool false] | some p => .tuple #[.bool true, .int q (p.1 : Int), p.2]) :: l)
   (fun y => Hp w0 F (itN q r b A (match y.1 with | none => L | some p => qcr L p) (match y.1 with | none => c | some p => some p) :: m)) :=
 zhr (val := fun y : { y : Option (Nat × Value) // match y with | none => L = [] | some p => p ∈ L } => match y.1 with | none => .tuple #[.bool false] | some p => .tuple #[.bool true, .int q (p.1 : Int), p.2]) hok (fun w hw => by
  have hin := hw.item _ (.head _)
  obtain ⟨hne, es, clk, since, c0, seen, h1, R, h3, h4, h5, h6, h7, h8⟩ := hin.1
  rcases run_next_at (P := P) w ty r b since c0 seen es clk h3 h1 h4 h5.1 with ⟨e1, e2⟩ | ⟨e, he, w1, hal, e2⟩
  ·have hL : L = [] := by
    have : (leftOf es seen).toList = [] := by have := Array.eq_empty_of_size_eq_zero e1; rw [this]
    rw [this] at h6
    cases L with
    | nil => rfl
    | cons a L => cases h6
   refine ⟨⟨none, hL⟩, w, ?_, hw⟩
   simp only [execOp, zax hx, Sem.run_bind, e2]; rfl
  ·obtain ⟨p, hp, hpe⟩ : ∃ p ∈ L, qew q p = (e.key, e.val) := by
    have : (e.key, e.val) ∈ L.map (qew q) := by rw [← h6]; exact List.mem_map.2 ⟨e, he, rfl⟩
    obtain ⟨p, hp, hpe⟩ := List.mem_map.1 this
    exact ⟨p, hp, hpe⟩
   have hek : e.key = .int q (p.1 : Int) := (congrArg Prod.fst hpe).symm
   have hev : e.val = p.2 := (congrArg Prod.snd hpe).symm
   obtain ⟨hees, -⟩ := mem_left he
   have hw1 : Hp w0 F (itN q r b A L c :: m) w1 := by
    rcases hal with rfl | rfl
    ·exact hw
    ·exact hw.drew
   have hr1 : w1.heap[r]? = some (.mapIter (some b) since seen c0) := by rcases hal with rfl | rfl <;> exact h3
   have hb1 : w1.heap[b]? = some (.map es clk) := by rcases hal with rfl | rfl <;> exact h1
   refine ⟨⟨some p, hp⟩, ChangeMaps.setBlock w1 r (.mapIter (some b) since (seen.push e.born) clk), ?_, ?_⟩
   ·simp only [execOp, zax hx, Sem.run_bind, e2, hek, hev]; rfl
   ·have hrl : r < w1.heap.size := (Array.getElem?_eq_some_iff.1 hr1).1
    have hsame : (ChangeMaps.setBlock w1 r (.mapIter (some b) since (seen.push e.born) clk)).heap[r]? = some (.mapIter (some b) since (seen.push e.born) clk) := World.putObj_heap_same hrl
    have hoth : ∀ k, k ≠ r → (ChangeMaps.setBlock w1 r (.mapIter (some b) since (seen.push e.born) clk)).heap[k]? = w1.heap[k]? := fun k hk => World.putObj_heap_other hk
    refine Hp.call (L := [itN q r b A (qcr L p) (some p)]) (m := [itN q r b A L c]) (Fc := fun k => k = r ∨ k = b) hw1 ⟨⟨rfl, rfl, rfl, Nat.le_of_eq (World.putObj_size (w := w1) (r := r)).symm, fun k _ hk => hoth k fun h => hk (.inl h)⟩, fun it hm => ?_, .cons (fun _ h => by cases h) .nil⟩ (fun k _ hk => ⟨itN q r b A L c, by simp, hk⟩)
    obtain rfl : it = itN q r b A (qcr L p) (some p) := by simpa using hm
    refine ⟨⟨hne, es, clk, since, clk, seen.push e.born, ?_, R, hsame, h4, ?_, ?_, ?_, ?_⟩, zr7 _ _ _ _ _ _ _, fun k hk => ⟨?_, fun _ => hk⟩⟩
    ·rw [hoth b (fun h => hne h.symm)]; exact hb1
    ·exact ⟨h5.2, h5.2⟩
    ·rw [qem]
     refine zqf h6 _ fun x hx => ?_
     obtain ⟨hxes, -⟩ := mem_left hx
     rw [Bool.not_eq_true', beq_eq_false_iff_ne, ← hek]
     exact ⟨fun h1 h2 => h1 (by rw [zyq R.keys hxes hees h2]), fun h1 h2 => h1 (by rw [zyq R.apart hxes hees h2])⟩
    ·exact List.Sublist.trans List.filter_sublist h7
    ·intro p' hp'
     cases hp'
     exact ⟨seen, e, rfl, hees, rfl, hpe.symm⟩
    ·have : (ChangeMaps.setBlock w1 r (.mapIter (some b) since (seen.push e.born) clk)).heap.size = w1.heap.size := World.putObj_size
     rw [this]
     rcases hk with rfl | rfl
     ·exact hrl
     ·exact (Array.getElem?_eq_some_iff.1 hb1).1)
theorem qar {q : IntKind} {x : Operand} {r b : Nat} {A L : zck} {p : Nat × Value} (hx : evO l x = some (.pointer (some ⟨r, 0, none⟩))) (hm : itN q r b A L (some p) ∈ m) : OV P (.entry x) ty l (Hp w0 F m) (.tuple #[.int q (p.1 : Int), p.2]) := ov fun _ _ _ w hw => by
 obtain ⟨-, es, clk, since, c0, seen, h1, R, h3, h4, h5, h6, h7, h8⟩ := (hw.item _ hm).1
 obtain ⟨seen', e, rfl, he, rfl, hpe⟩ := h8 p rfl
 have := run_entry_at (P := P) w r b since seen' es c0 e h3 h1 he R.apart
 have hek : e.key = .int q (p.1 : Int) := congrArg Prod.fst hpe
 have hev : e.val = p.2 := congrArg Prod.snd hpe
 simp only [execOp, zax hx, Sem.run_bind, this, hek, hev]; rfl
end Go.Eng
namespace Go.Eng
open Go.RowKit
variable {P : Program} {Q : Exit → Act → World → Prop} {N : Fm} {l : zat} {H : World → Prop} {ops : Array Oper} {rest : List Oper} {w0 : World} {F : Nat → Prop} {m m' : List Item} {ty : TypeId} {pos : String} {after : Array Edge} {g : Option (Nat × Bool)} {d : Nat}
def zkm (m : List Item) : List Nat → Option (List Item)
 | [] => some []
 | i :: r => match nth m i, zkm m r with
  | some x, some L => some (x :: L)
  | _, _ => none
def zqp : List Nat → Bool
 | [] => true
 | i :: r => !qlq r i && zqp r
theorem zzt : ∀ {L : List Nat} {i : Nat}, qlq L i = true ↔ i ∈ L
 | [], _ => by simp [qlq]
 | x :: r, i => by
  simp only [qlq, Bool.or_eq_true, List.mem_cons, zzt (L := r)]
  constructor
  ·rintro (h | h)
   ·exact .inl (Nat.eq_of_beq_eq_true h).symm
   ·exact .inr h
  ·rintro (rfl | h)
   ·exact .inl (Nat.beq_refl _)
   ·exact .inr h
theorem zpm : ∀ {is : List Nat} {m' : List Item}, zkm m is = some m' → ∀ x ∈ m', ∃ i ∈ is, m[i]? = some x
 | [], m', h, x, hx => by simp only [zkm, Option.some.injEq] at h; subst h; cases hx
 | i :: r, m', h, x, hx => by
  simp only [zkm] at h
  split at h
  ·rename_i y L h1 h2
   simp only [Option.some.injEq] at h
   subst h
   rcases List.mem_cons.1 hx with rfl | hx
   ·exact ⟨i, by simp, by rw [← zpa]; exact h1⟩
   ·obtain ⟨j, hj, h3⟩ := zpm h2 x hx
    exact ⟨j, by simp [hj], h3⟩
  ·cases h
theorem zor (hm : m.Pairwise Item.Apart) : ∀ {is : List Nat} {m' : List Item}, zqp is = true → zkm m is = some m' → m'.Pairwise Item.Apart
 | [], m', _, h => by simp only [zkm, Option.some.injEq] at h; subst h; exact .nil
 | i :: r, m', hd, h => by
  simp only [zqp, Bool.and_eq_true, Bool.not_eq_true'] at hd
  simp only [zkm] at h
  split at h
  ·rename_i y L h1 h2
   simp only [Option.some.injEq] at h
   subst h
   refine List.pairwise_cons.2 ⟨fun z hz => ?_, zor hm hd.2 h2⟩
   obtain ⟨j, hj, h3⟩ := zpm h2 z hz
   have hij : i ≠ j := fun e => by
    subst e
    have := zzt.2 hj
    rw [hd.1] at this; cases this
   rw [zpa] at h1
   obtain ⟨a1, a2⟩ := List.getElem?_eq_some_iff.1 h1
   obtain ⟨b1, b2⟩ := List.getElem?_eq_some_iff.1 h3
   rcases Nat.lt_or_gt_of_ne hij with hlt | hlt
   ·have := List.pairwise_iff_getElem.1 hm i j a1 b1 hlt
    rwa [a2, b2] at this
   ·have := List.pairwise_iff_getElem.1 hm j i b1 a1 hlt
    rw [a2, b2] at this
    exact fun k h h' => this k h' h
  ·cases h
theorem Hp.pick {w : World} (hw : Hp w0 F m w) (is : List Nat) (hd : zqp is = true) (h : zkm m is = some m') : Hp w0 F m' w :=
 ⟨hw.fr, fun it hm => by obtain ⟨i, -, hi⟩ := zpm h it hm; exact hw.item it (List.mem_of_getElem? hi), zor hw.apart hd h⟩
theorem za1 (is : List Nat) (hd : zqp is = true) (h : zkm m is = some m') (k : HL P ops Q N rest l (Hp w0 F m')) : HL P ops Q N rest l (Hp w0 F m) := ze1 (fun _ hw => hw.pick is hd h) k
theorem zde {c : Code} (is : List Nat) (hd : zqp is = true) (h : zkm m is = some m') (k : HT P c Q N l (Hp w0 F m')) : HT P c Q N l (Hp w0 F m) := zku (fun _ hw => hw.pick is hd h) k
theorem zeh {e : Exit} (is : List Nat) (hd : zqp is = true) (h : zkm m is = some m') (k : HX Q e N l (Hp w0 F m')) : HX Q e N l (Hp w0 F m) := zb3 (fun _ hw => hw.pick is hd h) k
theorem ze9 {S : World → Prop} {t n : Nat} {listed : Array Bool} (is : List Nat) (hd : zqp is = true) (h : zkm m is = some m') (k : HD P ops Q S t N n listed l (Hp w0 F m')) : HD P ops Q S t N n listed l (Hp w0 F m) := by
 unfold HD at *; exact fun inv a w s hw => k inv a w s (hw.pick is hd h)
theorem Hp.out {w : World} (hw : Hp w0 F m w) {b : Nat} (hb : b < w0.heap.size) (hF : ¬ F b) : ¬ zap m b := fun ⟨it, hm, hk⟩ => hF ((hw.item it hm).2.2 b hk |>.2 hb)
theorem Gh.In.lt {h : Gh} {w : World} (hi : h.In w) {b : Nat} (hb : (h b).isSome = true) : b < w.heap.size := by
 obtain ⟨o, ho⟩ := Option.isSome_iff_exists.1 hb
 exact (Array.getElem?_eq_some_iff.1 (hi b o ho)).1
theorem Gh.In.out {h : Gh} {w : World} (hi : h.In w0) (hF : ∀ b, (h b).isSome = true → ¬ F b) (hw : Hp w0 F m w) : ∀ b, (h b).isSome = true → ¬ zap m b := fun b hb => hw.out (hi.lt hb) (hF b hb)
theorem qhk {f : FuncId} {x : Operand} {fs cs : List Value} {xs : List Operand} {tys : Array TypeId} {vs us : List Value} {pre : List Item} {α : Type} {val : α → Value} {φ : α → Prop} {its : α → List Item}
  (hok : zfj N l (.call ⟨.value x, xs.toArray, tys⟩) d = true) (hb : zb9 P f = true) (hf : evO l x = some (.func (.func f) fs.toArray cs.toArray)) (hx : evs l xs = some vs) (hu : fs ++ (vs ++ cs) = us) (hst : ∀ it ∈ pre, it.Stable none')
  (hc : ∀ w, Hp w0 F (pre ++ m) w → (∀ it ∈ pre, za2 it w) → pre.Pairwise Item.Apart → Ct P f us.toArray w (zap pre) val φ its) :
  HO P ⟨some d, .call ⟨.value x, xs.toArray, tys⟩, ty, pos, after, g⟩ Q N l (Hp w0 F (pre ++ m)) (α := { x : α // φ x }) (fun x => (d, val x.1) :: l) (fun x => Hp w0 F (its x.1 ++ m)) :=
 zry (val := fun x : { x : α // φ x } => val x.1) hok (zyx hf hb hx hu) (fun w hw => (Ct.calls (hc w hw (fun it hm => have h := hw.item it (List.mem_append_left _ hm); ⟨h.1, hst it hm, fun k hk => (h.2.2 k hk).1⟩) (List.pairwise_append.1 hw.apart).1)).mono fun _ _ ⟨x, he, hx, hi⟩ => ⟨⟨x, hx⟩, he, hw.call hi fun _ _ ⟨it, hm, hk⟩ => ⟨it, hm, hk⟩⟩)
theorem qpn {f : FuncId} {x : Operand} {fs cs : List Value} {xs : List Operand} {tys : Array TypeId} {vs us : List Value} {α : Type} {val : α → Value} {φ : α → Prop} {its : α → List Item}
  (hok : zfj N l (.call ⟨.value x, xs.toArray, tys⟩) d = true) (hb : zb9 P f = true) (hf : evO l x = some (.func (.func f) fs.toArray cs.toArray)) (hx : evs l xs = some vs) (hu : fs ++ (vs ++ cs) = us)
  (hc : ∀ w, Hp w0 F m w → Ct P f us.toArray w none' val φ its) :
  HO P ⟨some d, .call ⟨.value x, xs.toArray, tys⟩, ty, pos, after, g⟩ Q N l (Hp w0 F m) (α := { x : α // φ x }) (fun x => (d, val x.1) :: l) (fun x => Hp w0 F (its x.1 ++ m)) :=
 zry (val := fun x : { x : α // φ x } => val x.1) hok (zyx hf hb hx hu) (fun w hw => (Ct.calls (hc w hw)).mono fun _ _ ⟨x, he, hx, hi⟩ => ⟨⟨x, hx⟩, he, hw.call0 hi⟩)
theorem zaq {id : Nat} {r : List Oper} (is : List Nat) (t : Nat) (hd : zqp is = true) (hp : zkm m is = some m') (hm : zld P r = true) (h : HD P r.toArray Q (Hp w0 F m') t N r.length (Array.replicate r.length false) l (Hp w0 F m)) : HT P (.region id r.toArray true) Q N l (Hp w0 F m) := by
 unfold HT HD at *
 intro a w s hw
 simp only [zld, Bool.and_eq_true, List.all_eq_true] at hm
 refine wpIn_mono (wpIn_region_any (Q := znl Q) hm.1 (qak (by simpa using hm.2) zt1 N.r _ _ _ _ (zjj (S := Hp w0 F m') (t := t) _ _ _ _ ?_))) (fun _ _ _ h => zsk h)
 have := h (by simpa using zh3 r.toArray t) a w.drew s hw.drew
 simpa using this
end Go.Eng
