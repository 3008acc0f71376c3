/- Maps keyed by whole numbers: making one, looking up, putting in, clearing, how many there are, and ranging over one in any order. -/
/- Ranging over a map keyed by whole numbers, in any order. -/
/- Items by their places; calls of function values that take items over. Own work; no condition. -/
/- Slices of bytes: conversions, clones, what is read of them. -/
/- package disk: what a disk is in memory; its small functions. -/
/- strings.Builder, written on behind String: the buffer's head may be frozen. -/
/- strings.Builder's methods, written on behind String. -/
/- strings.Repeat of one byte that is 0. -/
/- Maps that are keyed by hashes: their rows in memory, and what is looked up. -/
/- Maps keyed by hashes: making one, looking up, putting in, how many there are. -/
/- package pack, the packer: what is put. -/
/- Whether a stream may be: as the program asks it, and as the document says it. -/
/- Chunks: what is parsed of bytes, what is put, and when both are one. -/
/- Chunks and streams: what may be, what is taken of bytes, and the law of the way back. -/
import Derived.Test.YtkkfifhaobjicaaGreatDoorHc04
import Derived.Maps.Keyed
import Derived.Maps.RangeRun
import Derived.ChangeMaps5
import Derived.Test.YtkkfifhaobjicaaGreatDoorHc01
import Derived.Laws.IdiomStrings
import Derived.Laws.Cover3
import Derived.Test.YtkkfifhaobjicaaGreatDoorChecked
import Derived.Lib.FrozenHead
import Derived.Lib.MakeNoZero
import Derived.Lib.UnsafeStr
import Derived.DeepKeys3
import Derived.Test.YtkkfifhaobjicaaGreatDoorProg
namespace Go.Eng
open Go.RowKit
set_option maxRecDepth 100000
variable {P : Program} {Q : Exit → Act → World → Prop} {N : Fm} {l : zaq} {H : World → Prop} {ops : Array Oper} {rest : List Oper} {w0 : World} {F : Nat → Prop} {m m' : List Item} {ty : TypeId} {pos : String} {after : Array Edge} {g : Option (Nat × Bool)} {d : Nat}
abbrev zch := List (Nat × Value)
abbrev okN (q : IntKind) (n : Nat) : Prop := (Lit.int q (n : Int)).wf = true
def qg1 (q : IntKind) (p : Nat × Value) : Value × Value := (.int q (p.1 : Int), p.2)
structure Rows' (q : IntKind) (A : zch) (es : Array MapEntry) (clk : Nat) : Prop where
 nodup : (A.map (·.1)).Nodup
 ok : ∀ p ∈ A, okN q p.1
 rows : es.toList.map (fun e => (e.key, e.val)) = A.map (qg1 q)
 apart : (es.toList.map (·.born)).Nodup
 old : ∀ e ∈ es.toList, e.born < clk
def zd8 (q : IntKind) (b : Nat) (A : zch) : Item := ⟨fun k => k = b, fun w => ∃ es clk, w.heap[b]? = some (.map es clk) ∧ Rows' q A es clk⟩
theorem za6 (ro : Nat → Prop) (q : IntKind) (b : Nat) (A : zch) : (zd8 q b A).Stable ro := fun _ _ h ⟨es, clk, h3, h4⟩ => ⟨es, clk, (h b (.inr rfl)).trans h3, h4⟩
def ztu (A : zch) (h : Nat) (v : Value) : zch := if (A.lookup h).isSome then A.map (fun p => if p.1 = h then (h, v) else p) else A ++ [(h, v)]
theorem zv1 {A : zch} {h : Nat} : (A.lookup h).isSome = true ↔ h ∈ A.map (·.1) := by
 induction A with
 | nil => simp
 | cons a A ih =>
  obtain ⟨x, y⟩ := a
  by_cases e : h = x
  ·subst e; simp [List.lookup]
  ·have : (h == x) = false := beq_eq_false_iff_ne.2 e
   simp only [List.lookup, this, ih, bD, aJ, e, false_or]
theorem qi9 {A : zch} (hn : (A.map (·.1)).Nodup) {p : Nat × Value} (hp : p ∈ A) : A.lookup p.1 = some p.2 := by
 induction A with
 | nil => cases hp
 | cons a A ih =>
  obtain ⟨x, y⟩ := a
  rw [bD, cS] at hn
  rcases aJ.1 hp with rfl | hp
  ·simp [List.lookup]
  ·have hne : (p.1 == x) = false := by
    rw [beq_eq_false_iff_ne]
    exact fun e => hn.1 (aT.2 ⟨p, hp, e⟩)
   simp only [List.lookup, hne]
   exact ih hn.2 hp
theorem zo1 (A : zch) (h : Nat) (v : Value) : (ztu A h v).map (·.1) = if h ∈ A.map (·.1) then A.map (·.1) else A.map (·.1) ++ [h] := by
 unfold ztu
 by_cases hm : h ∈ A.map (·.1)
 ·rw [if_pos (zv1.2 hm), if_pos hm, dR]
  refine dD fun p _ => ?_
  simp only [Function.comp]
  split
  ·rename_i e; exact e.symm
  ·rfl
 ·rw [if_neg (fun hs => hm (zv1.1 hs)), if_neg hm, cD]; rfl
theorem zyj {q : IntKind} {a b : Nat} (h : Value.int q (a : Int) = .int q (b : Int)) : a = b := by
 injection h with h1 h2; omega
theorem qkx {q : IntKind} {k : TypeId} (hk : P.underlying k = some (.int q)) {A : zch} {es : Array MapEntry} {clk : Nat} (R : Rows' q A es clk) {h : Nat} (hh : okN q h) (w : World) :
  ((Instr.findKey k (.int q (h : Int)) es.toList).run P w = .ok none w ∧ A.lookup h = none) ∨ ∃ j v, (Instr.findKey k (.int q (h : Int)) es.toList).run P w = .ok (some (j, v)) w ∧ A.lookup h = some v ∧ A[j]? = some (h, v) := by
 have KL := Maps.int_keyed hk
 have hkey := Maps.keyOf_int_mk hk hh
 have he := R.rows
 have hlen : es.toList.length = A.length := by have := congrArg List.length he; simpa using this
 have hat : ∀ (j : Nat) (hj : j < es.toList.length) (hj' : j < A.length), es.toList[j].key = .int q (A[j].1 : Int) ∧ es.toList[j].val = A[j].2 := fun j hj hj' => by
  have := congrArg (fun l => l[j]?) he
  simp only [aN, aB hj, aB hj', cK, cO, gN, qg1] at this
  exact this
 have hall : ∀ e ∈ es.toList, ∃ l, keyOf P k e.key = some l := fun e hm => by
  obtain ⟨j, hj, rfl⟩ := bI hm
  rw [(hat j hj oQ).1]
  exact ⟨_, Maps.keyOf_int_mk hk (R.ok _ (aR _))⟩
 rcases KL.find w hkey es.toList hall with ⟨h1, h2⟩ | ⟨j, e, h1, h2, h3⟩
 ·refine .inl ⟨h1, ?_⟩
  rw [List.lookup_eq_none_iff]
  intro p hp
  obtain ⟨j, hj, rfl⟩ := bI hp
  have h4 := h2 _ (aR (show j < es.toList.length by omega))
  rw [(hat j oQ hj).1] at h4
  simp only [bne_iff_ne, ne_eq]
  exact fun e => h4 (by rw [e])
 ·have hj : j < es.toList.length := by
   rcases gK j es.toList.length with hj | hj
   ·exact hj
   ·rw [cR hj] at h2; cases h2
  rw [aB hj] at h2
  injection h2 with h2
  have ha := hat j hj oQ
  rw [h2] at ha
  have hk2 : A[j].1 = h := zyj (ha.1.symm.trans h3)
  have hAj : A[j]? = some (h, e.val) := by
   rw [aB (show j < A.length by omega), ha.2, ← hk2]
  refine .inr ⟨j, e.val, h1, ?_, hAj⟩
  exact qi9 R.nodup (cH hAj)
theorem zgi {q : IntKind} {T : TypeId} (hok : ze5 N l (.makeMap T none) d = true) : HO P ⟨some d, .makeMap T none, ty, pos, after, g⟩ Q N l (Hp w0 F m) (α := { b : Nat // w0.heap.size ≤ b }) (fun b => (d, .map (some b.1)) :: l) (fun b => Hp w0 F (zd8 q b.1 [] :: m)) :=
 zh5 (val := fun b : { b : Nat // w0.heap.size ≤ b } => .map (some b.1)) hok (fun w hw => by
  refine ⟨⟨w.heap.size, hw.fr.size⟩, w.alloc (.map #[] 0), ?_, (hw.alloc (.map #[] 0)).imp (fun k h => h) (fun h => ⟨#[], 0, h, ⟨.nil, (fun _ h => nomatch h), rfl, .nil, (fun _ h => nomatch h)⟩⟩) (za6 _ _ _ _)⟩
  simp [execOp, Instr.makeMap, newObj, Sem.run, Sem.run_bind])
section look
variable {q : IntKind} {x y z : Operand} {T k e : TypeId} {b : Nat} {A : zch} {h : Nat} {zv v : Value}
theorem zv2 (hk : P.underlying k = some (.int q)) (hT : P.underlying T = some (.map k e)) (hz : (P.info? e).bind (·.zero) = some zv) (hh : okN q h) (c : Bool) {w : World} (hp : (zd8 q b A).prop w) :
  (Instr.lookup T (.map (some b)) (.int q (h : Int)) c).run P w = .ok (if c then .tuple #[(A.lookup h).getD zv, .bool (A.lookup h).isSome] else (A.lookup h).getD zv) w := by
 obtain ⟨es, clk, h3, R⟩ := hp
 have hg : (getObj b).run P w = .ok (.map es clk) w := by simp [getObj, Sem.run, h3]
 have hc := (Maps.int_keyed hk).check w es.isEmpty (Maps.keyOf_int_mk hk hh)
 have hzr : (zeroValue e).run P w = .ok zv w := by
  cases hq : P.info? e with
  | none => simp [hq] at hz
  | some i =>
   have hz' : i.zero = some zv := by simpa [hq] using hz
   simp [zeroValue, typeInfo, hq, hz']
 simp only [Instr.lookup]
 simp only [Sem.run_bind, run_underlying hT w, Result.andThen_ok, hg]
 simp only [Sem.run_pure, Sem.run_bind, Result.andThen_ok, hc]
 rcases qkx hk R hh w with ⟨e1, e2⟩ | ⟨j, u, e1, e2, -⟩
 ·simp only [e1, Result.andThen_ok, e2, kG, jT]
  simp only [Sem.run_bind, hzr, Result.andThen_ok, Sem.run_pure]
 ·simp only [e1, Result.andThen_ok, e2, eW, iE, Sem.run_pure, Sem.run_bind]
theorem qhs (hk : P.underlying k = some (.int q)) (hx : evO l x = some (.map (some b))) (hy : evO l y = some (.int q (h : Int))) (hT : P.underlying T = some (.map k e)) (hz : (P.info? e).bind (·.zero) = some zv) (hh : okN q h) (hm : zd8 q b A ∈ m) :
  OV P (.lookup T x y true) ty l (Hp w0 F m) (.tuple #[(A.lookup h).getD zv, .bool (A.lookup h).isSome]) := ov fun _ _ _ w hw => by
 have := zv2 hk hT hz hh true (hw.item _ hm).1
 simp only [execOp, zau hx, zau hy, Sem.run_bind, this]; rfl
theorem qkc (hk : P.underlying k = some (.int q)) (hx : evO l x = some (.map (some b))) (hy : evO l y = some (.int q (h : Int))) (hT : P.underlying T = some (.map k e)) (hz : (P.info? e).bind (·.zero) = some zv) (hh : okN q h) (hm : zd8 q b A ∈ m) :
  OV P (.lookup T x y false) ty l (Hp w0 F m) ((A.lookup h).getD zv) := ov fun _ _ _ w hw => by
 have := zv2 hk hT hz hh false (hw.item _ hm).1
 simp only [execOp, zau hx, zau hy, Sem.run_bind, this]; rfl
theorem qcp (hk : P.underlying k = some (.int q)) (hT : P.underlying T = some (.map k e)) (hh : okN q h) {w : World} (hw : Hp w0 F (zd8 q b A :: m) w) :
  ∃ w', (Instr.mapUpdate T (.map (some b)) (.int q (h : Int)) v).run P w = .ok () w' ∧ Hp w0 F (zd8 q b (ztu A h v) :: m) w' := by
 obtain ⟨es, clk, h3, R⟩ := (hw.item _ (.head _)).1
 have h4 := R.rows
 have hg : (getObj b).run P w = .ok (.map es clk) w := by simp [getObj, Sem.run, h3]
 have hset : ∀ o, (setObj b o).run P w = .ok () (w.putObj b o) := fun o => by simp [setObj, Sem.run, h3, World.putObj]
 have hkey := Maps.keyOf_int_mk hk hh
 have hc := (Maps.int_keyed hk).check w false hkey
 have hw1 : Hp w0 F (pt b (.map es clk) :: m) w := hw.imp (fun _ h => h) (fun _ => h3) (zac _ _ _)
 have hlen : es.toList.length = A.length := by have := congrArg List.length h4; simpa using this
 have hins : ∀ p ∈ ztu A h v, okN q p.1 := fun p hp => by
  unfold ztu at hp
  split at hp
  ·obtain ⟨r, hr, rfl⟩ := aT.1 hp
   split
   ·exact hh
   ·exact R.ok r hr
  ·rcases aS.1 hp with hp | hp
   ·exact R.ok p hp
   ·rw [aL] at hp; subst hp; exact hh
 have hnd : ((ztu A h v).map (·.1)).Nodup := by
  rw [zo1]
  split
  ·exact R.nodup
  ·rename_i hm
   refine cQ.2 ⟨R.nodup, cS.2 ⟨by simp, .nil⟩, fun a ha c hc e => ?_⟩
   rw [aL] at hc
   subst hc; subst e; exact hm ha
 simp only [Instr.mapUpdate]
 simp only [Sem.run_bind, run_underlying hT w, Result.andThen_ok, hg]
 simp only [Sem.run_pure, Sem.run_bind, Result.andThen_ok, hc]
 rcases qkx hk R hh w with ⟨e1, e2⟩ | ⟨j, u, e1, e2, e3⟩
 ·simp only [e1, Result.andThen_ok, hset]
  refine ⟨_, rfl, (hw1.put _).imp (fun _ h => h) (fun hp => ⟨_, _, hp, ⟨hnd, hins, ?_, ?_, ?_⟩⟩) (za6 _ _ _ _)⟩
  ·have : ztu A h v = A ++ [(h, v)] := by unfold ztu; rw [if_neg (by rw [e2]; simp)]
   rw [this]
   simp [h4, qg1]
  ·rw [Array.toList_push, cD]
   refine cQ.2 ⟨R.apart, cS.2 ⟨by simp, .nil⟩, fun a ha c hc e => ?_⟩
   obtain ⟨x, hx, rfl⟩ := aT.1 ha
   have h1 := R.old x hx
   rw [List.map_singleton, aL] at hc
   subst hc
   omega
  ·intro x hx
   rw [Array.toList_push] at hx
   rcases aS.1 hx with hx | hx
   ·exact eO (R.old x hx)
   ·rw [aL] at hx; subst hx; exact eU _
 ·have hj : j < es.size := by
   have := (aM.1 e3).1
   rw [← hlen] at this; simpa using this
  have hkj : es[j].key = .int q (h : Int) := by
   have := congrArg (fun l => l[j]?) h4
   simp only [aN, e3, cK] at this
   have h5 : es.toList[j]? = some es[j] := by simp [hj]
   rw [h5] at this
   simp only [cK, cO, gN, qg1] at this
   exact this.1
  have hst : (Instr.keyThatStays (((es[j]?).map (·.key)).getD (.int q (h : Int))) (.int q (h : Int))).run P w = .ok (.int q (h : Int)) w := by
   rw [fD hj, cK, eW, hkj]
   exact (Maps.int_keyed hk).stays w hkey
  simp only [e1, Result.andThen_ok, Sem.run_bind, hst, hset]
  have hborn : (es.modify j fun e => { e with key := .int q (h : Int), val := v }).toList.map (·.born) = es.toList.map (·.born) := by
   apply List.ext_getElem?
   intro i
   simp only [aN]
   rw [gQ, gO, gQ]
   split
   ·cases es[i]? <;> rfl
   ·rfl
  refine ⟨_, rfl, (hw1.put _).imp (fun _ h => h) (fun hp => ⟨_, _, hp, ⟨hnd, hins, ?_, by rw [hborn]; exact R.apart, ?_⟩⟩) (za6 _ _ _ _)⟩
  ·have : ztu A h v = A.map (fun p => if p.1 = h then (h, v) else p) := by unfold ztu; rw [if_pos (by rw [e2]; simp)]
   rw [this]
   apply List.ext_getElem?
   intro i
   have hi4 := congrArg (fun l => l[i]?) h4
   simp only [aN] at hi4 ⊢
   rw [gQ, gO]
   by_cases hij : j = i
   ·subst hij
    rw [if_pos rfl, e3, fD hj]
    simp [qg1]
   ·rw [if_neg hij, ← gQ, hi4]
    cases hA : A[i]? with
    | none => rfl
    | some p =>
     simp only [cK]
     have hne : p.1 ≠ h := fun e => by
      have hi := (aM.1 hA).1
      have hj2 := (aM.1 e3).1
      have h6 : (A.map (·.1))[i]'(by simpa using hi) = (A.map (·.1))[j]'(by simpa using hj2) := by
       simp only [cW]
       rw [(aM.1 hA).2, (aM.1 e3).2]
       exact e
      rcases Nat.lt_or_gt_of_ne hij with hlt2 | hlt2
      ·exact cM.1 R.nodup j i (by simpa using hj2) (by simpa using hi) hlt2 h6.symm
      ·exact cM.1 R.nodup i j (by simpa using hi) (by simpa using hj2) hlt2 h6
     rw [if_neg hne]
  ·intro x hx
   have : x.born ∈ es.toList.map (·.born) := by rw [← hborn]; exact aT.2 ⟨x, hx, rfl⟩
   obtain ⟨y, hy, hxy⟩ := aT.1 this
   rw [← hxy]; exact R.old y hy
theorem zjp (hk : P.underlying k = some (.int q)) (hok : (zhi (.mapUpdate T x y z) && zes l (.mapUpdate T x y z)) = true) (hx : evO l x = some (.map (some b))) (hy : evO l y = some (.int q (h : Int))) (hz : evO l z = some v) (hT : P.underlying T = some (.map k e)) (hh : okN q h) :
  HO P ⟨none, .mapUpdate T x y z, ty, pos, after, g⟩ Q N l (Hp w0 F (zd8 q b A :: m)) (α := Unit) (fun _ => l) (fun _ => Hp w0 F (zd8 q b (ztu A h v) :: m)) :=
 zwa hok (fun w hw => by
  obtain ⟨w', h1, h2⟩ := qcp (v := v) hk hT hh hw
  refine ⟨(), w', ?_, h2⟩
  simp only [execOp, zau hx, zau hy, zau hz, Sem.run_bind, h1]; rfl)
end look
variable {P : Program} {Q : Exit → Act → World → Prop} {N : Fm} {l : zaq} {H : World → Prop} {ops : Array Oper} {rest : List Oper} {w0 : World} {F : Nat → Prop} {m m' : List Item} {ty : TypeId} {pos : String} {after : Array Edge} {g : Option (Nat × Bool)} {d : Nat}
def itN (q : IntKind) (r b : Nat) (A L : zch) (c : Option (Nat × Value)) : Item := ⟨fun k => k = r ∨ k = b, fun w => r ≠ b ∧ ∃ es clk since c0 seen, w.heap[b]? = some (.map es clk) ∧ Rows' q A es clk ∧ w.heap[r]? = some (.mapIter (some b) since seen c0) ∧
 (∀ e ∈ es.toList, e.born < since) ∧ (since ≤ c0 ∧ since ≤ clk) ∧ ((leftOf es seen).toList.map fun e => (e.key, e.val)) = L.map (qg1 q) ∧ L.Sublist A ∧
 ∀ p, c = some p → ∃ (seen' : Array Nat) (e : MapEntry), seen = seen'.push e.born ∧ e ∈ es.toList ∧ c0 = clk ∧ (e.key, e.val) = qg1 q p⟩
theorem zrt (ro : Nat → Prop) (q : IntKind) (r b : Nat) (A L : zch) (c : Option (Nat × Value)) : (itN q r b A L c).Stable ro := fun _ _ h ⟨h0, es, clk, since, c0, seen, h1, h2, h3, h4⟩ => ⟨h0, es, clk, since, c0, seen, (h b (.inr (.inr rfl))).trans h1, h2, (h r (.inr (.inl rfl))).trans h3, h4⟩
theorem zyq {α β : Type} {f : α → β} : ∀ {l : List α}, (l.map f).Nodup → ∀ {x y : α}, x ∈ l → y ∈ l → f x = f y → x = y
 | [], _, _, _, h, _, _ => nomatch h
 | a :: l, hn, x, y, hx, hy, he => by
  rw [bD, cS] at hn
  rcases aJ.1 hx with h1 | hx
  ·rcases aJ.1 hy with h2 | hy
   ·rw [h1, h2]
   ·exact absurd (aT.2 ⟨y, hy, by rw [← he, h1]⟩) hn.1
  ·rcases aJ.1 hy with h2 | hy
   ·exact absurd (aT.2 ⟨x, hx, by rw [he, h2]⟩) hn.1
   ·exact zyq hn.2 hx hy he
theorem Rows'.keys {q : IntKind} {A : zch} {es : Array MapEntry} {clk : Nat} (R : Rows' q A es clk) : (es.toList.map (·.key)).Nodup := by
 have h : es.toList.map (·.key) = A.map fun p => Value.int q (p.1 : Int) := by
  have := congrArg (List.map Prod.fst) R.rows
  rw [dR, dR] at this
  exact this
 rw [h]
 have hn := R.nodup
 clear h R
 induction A with
 | nil => exact .nil
 | cons a A ih =>
  rw [bD, cS] at hn ⊢
  refine ⟨fun hm => hn.1 ?_, ih hn.2⟩
  obtain ⟨p, hp, he⟩ := aT.1 hm
  exact aT.2 ⟨p, hp, zyj he⟩
theorem qi8 (es : Array MapEntry) : leftOf es #[] = es := by
 unfold leftOf
 exact Array.filter_eq_self.2 sQ
theorem qar {q : IntKind} {x : Operand} {T k e : TypeId} {b : Nat} {A : zch} (hok : ze5 N l (.range T x) d = true) (hx : evO l x = some (.map (some b))) (hT : P.underlying T = some (.map k e)) :
  HO P ⟨some d, .range T x, ty, pos, after, g⟩ Q N l (Hp w0 F (zd8 q b A :: m)) (α := { r : Nat // w0.heap.size ≤ r }) (fun r => (d, .pointer (some ⟨r.1, 0, none⟩)) :: l) (fun r => Hp w0 F (itN q r.1 b A A none :: m)) :=
 zh5 (val := fun r : { r : Nat // w0.heap.size ≤ r } => .pointer (some ⟨r.1, 0, none⟩)) hok (fun w hw => by
  obtain ⟨es, clk, h1, R⟩ := (hw.item _ (.head _)).1
  have hlt : b < w.heap.size := (bC.1 h1).1
  have hrun := run_range_map (P := P) w T k e b es clk hT h1
  refine ⟨⟨w.heap.size, hw.fr.size⟩, w.alloc (.mapIter (some b) clk #[] clk), ?_, ?_⟩
  ·simp only [execOp, zau hx, Sem.run_bind, hrun]; rfl
  ·have h2 := hw.alloc (.mapIter (some b) clk #[] clk)
   have a1 := h2.item _ (.head _)
   have a2 := h2.item _ (.tail _ (.head _))
   obtain ⟨p1, p2⟩ := bL.1 h2.apart
   obtain ⟨p3, p4⟩ := bL.1 p2
   refine ⟨h2.fr, fun it hm => ?_, bL.2 ⟨fun y hy k' hk hk' => ?_, p4⟩⟩
   ·rcases aJ.1 hm with rfl | hm
    ·refine ⟨⟨Nat.ne_of_gt hlt, es, clk, clk, clk, #[], ?_, R, a1.1, R.old, ⟨aX _, aX _⟩, ?_, List.Sublist.refl _, fun p h => by cases h⟩, zrt _ _ _ _ _ _ _, fun k' hk => ?_⟩
     ·have := Below.heap_alloc w (.mapIter (some b) clk #[] clk) b hlt
      rw [this]; exact h1
     ·rw [qi8]; exact R.rows
     ·rcases hk with rfl | rfl
      ·exact a1.2.2 _ rfl
      ·exact a2.2.2 _ rfl
    ·exact h2.item it (.tail _ (.tail _ hm))
   ·rcases hk with rfl | rfl
    ·exact p1 y (.tail _ hy) _ rfl hk'
    ·exact p3 y hy _ rfl hk')
theorem zyl {q : IntKind} {r b : Nat} {A L : zch} {c : Option (Nat × Value)} {w : World} (hw : Hp w0 F (itN q r b A L c :: m) w) : Hp w0 F (zd8 q b A :: m) w :=
 hw.imp (fun _ h => .inr h) (fun ⟨_, es, clk, _, _, _, h1, h2, _⟩ => ⟨es, clk, h1, h2⟩) (za6 _ _ _ _)
def qdz (L : zch) (p : Nat × Value) : zch := L.filter fun x => decide (x.1 ≠ p.1)
theorem qfv (es : Array MapEntry) (seen : Array Nat) (b : Nat) : (leftOf es (seen.push b)).toList = (leftOf es seen).toList.filter fun e => !(e.born == b) := by
 unfold leftOf
 rw [Array.toList_filter, Array.toList_filter, jP]
 refine jW fun x _ => ?_
 rw [contains_push]
 cases seen.contains x.born <;> cases (x.born == b) <;> rfl
theorem zpy {q : IntKind} {p : Nat × Value} : ∀ {X : List MapEntry} {L : zch}, (X.map fun e => (e.key, e.val)) = L.map (qg1 q) → ∀ (f : MapEntry → Bool), (∀ e ∈ X, f e = true ↔ e.key ≠ .int q (p.1 : Int)) → ((X.filter f).map fun e => (e.key, e.val)) = (qdz L p).map (qg1 q)
 | [], [], _, _, _ => rfl
 | [], _ :: _, h, _, _ => by cases h
 | _ :: _, [], h, _, _ => by cases h
 | x :: X, y :: L, h, f, hf => by
  rw [bD, bD] at h
  injection h with h1 h2
  have ih := zpy (p := p) h2 f fun e he => hf e (by simp [he])
  have hx := hf x sQ
  have hk : x.key = .int q (y.1 : Int) := congrArg Prod.fst h1
  unfold qdz at ih ⊢
  by_cases e : y.1 = p.1
  ·have h3 : f x = false := by
    cases hc : f x with
    | false => rfl
    | true => exact absurd (by rw [hk, e]) (hx.1 hc)
   rw [dY (by simp [h3]), dY (by simp [e])]
   exact ih
  ·have h3 : f x = true := hx.2 fun h => e (zyj (hk.symm.trans h))
   rw [eT h3, eT (by simp [e]), bD, bD, h1, ih]
theorem qf8 {q : IntKind} {x : Operand} {r b : Nat} {A L : zch} {c : Option (Nat × Value)} (hok : ze5 N l (.next x false) d = true) (hx : evO l x = some (.pointer (some ⟨r, 0, none⟩))) :
  HO P ⟨some d, .next x false, ty, pos, after, g⟩ Q N l (Hp w0 F (itN q r b A L c :: m)) (α := { y : Option (Nat × Value) // match y with | none => L = [] | some p => p ∈ L })
   (fun y => (d, match y.1 with | none => .tuple #[.bool false] | some p => .tuple #[.bool true, .int q (p.1 : Int), p.2]) :: l)
   (fun y => Hp w0 F (itN q r b A (match y.1 with | none => L | some p => qdz L p) (match y.1 with | none => c | some p => some p) :: m)) :=
 zh5 (val := fun y : { y : Option (Nat × Value) // match y with | none => L = [] | some p => p ∈ L } => match y.1 with | none => .tuple #[.bool false] | some p => .tuple #[.bool true, .int q (p.1 : Int), p.2]) hok (fun w hw => by
  have hin := hw.item _ (.head _)
  obtain ⟨hne, es, clk, since, c0, seen, h1, R, h3, h4, h5, h6, h7, h8⟩ := hin.1
  rcases run_next_at (P := P) w ty r b since c0 seen es clk h3 h1 h4 h5.1 with ⟨e1, e2⟩ | ⟨e, he, w1, hal, e2⟩
  ·have hL : L = [] := by
    have : (leftOf es seen).toList = [] := by have := iS e1; rw [this]
    rw [this] at h6
    cases L with
    | nil => rfl
    | cons a L => cases h6
   refine ⟨⟨none, hL⟩, w, ?_, hw⟩
   simp only [execOp, zau hx, Sem.run_bind, e2]; rfl
  ·obtain ⟨p, hp, hpe⟩ : ∃ p ∈ L, qg1 q p = (e.key, e.val) := by
    have : (e.key, e.val) ∈ L.map (qg1 q) := by rw [← h6]; exact aT.2 ⟨e, he, rfl⟩
    obtain ⟨p, hp, hpe⟩ := aT.1 this
    exact ⟨p, hp, hpe⟩
   have hek : e.key = .int q (p.1 : Int) := (congrArg Prod.fst hpe).symm
   have hev : e.val = p.2 := (congrArg Prod.snd hpe).symm
   obtain ⟨hees, -⟩ := mem_left he
   have hw1 : Hp w0 F (itN q r b A L c :: m) w1 := by
    rcases hal with rfl | rfl
    ·exact hw
    ·exact hw.drew
   have hr1 : w1.heap[r]? = some (.mapIter (some b) since seen c0) := by rcases hal with rfl | rfl <;> exact h3
   have hb1 : w1.heap[b]? = some (.map es clk) := by rcases hal with rfl | rfl <;> exact h1
   refine ⟨⟨some p, hp⟩, ChangeMaps.setBlock w1 r (.mapIter (some b) since (seen.push e.born) clk), ?_, ?_⟩
   ·simp only [execOp, zau hx, Sem.run_bind, e2, hek, hev]; rfl
   ·have hrl : r < w1.heap.size := (bC.1 hr1).1
    have hsame : (ChangeMaps.setBlock w1 r (.mapIter (some b) since (seen.push e.born) clk)).heap[r]? = some (.mapIter (some b) since (seen.push e.born) clk) := World.putObj_heap_same hrl
    have hoth : ∀ k, k ≠ r → (ChangeMaps.setBlock w1 r (.mapIter (some b) since (seen.push e.born) clk)).heap[k]? = w1.heap[k]? := fun k hk => World.putObj_heap_other hk
    refine Hp.call (L := [itN q r b A (qdz L p) (some p)]) (m := [itN q r b A L c]) (Fc := fun k => k = r ∨ k = b) hw1 ⟨⟨rfl, rfl, rfl, iM (World.putObj_size (w := w1) (r := r)).symm, fun k _ hk => hoth k fun h => hk (.inl h)⟩, fun it hm => ?_, .cons (fun _ h => by cases h) .nil⟩ (fun k _ hk => ⟨itN q r b A L c, by simp, hk⟩)
    obtain rfl : it = itN q r b A (qdz L p) (some p) := by simpa using hm
    refine ⟨⟨hne, es, clk, since, clk, seen.push e.born, ?_, R, hsame, h4, ?_, ?_, ?_, ?_⟩, zrt _ _ _ _ _ _ _, fun k hk => ⟨?_, fun _ => hk⟩⟩
    ·rw [hoth b (fun h => hne h.symm)]; exact hb1
    ·exact ⟨h5.2, h5.2⟩
    ·rw [qfv]
     refine zpy h6 _ fun x hx => ?_
     obtain ⟨hxes, -⟩ := mem_left hx
     rw [eN, beq_eq_false_iff_ne, ← hek]
     exact ⟨fun h1 h2 => h1 (by rw [zyq R.keys hxes hees h2]), fun h1 h2 => h1 (by rw [zyq R.apart hxes hees h2])⟩
    ·exact List.Sublist.trans jH h7
    ·intro p' hp'
     cases hp'
     exact ⟨seen, e, rfl, hees, rfl, hpe.symm⟩
    ·have : (ChangeMaps.setBlock w1 r (.mapIter (some b) since (seen.push e.born) clk)).heap.size = w1.heap.size := World.putObj_size
     rw [this]
     rcases hk with rfl | rfl
     ·exact hrl
     ·exact (bC.1 hb1).1)
theorem qbl {q : IntKind} {x : Operand} {r b : Nat} {A L : zch} {p : Nat × Value} (hx : evO l x = some (.pointer (some ⟨r, 0, none⟩))) (hm : itN q r b A L (some p) ∈ m) : OV P (.entry x) ty l (Hp w0 F m) (.tuple #[.int q (p.1 : Int), p.2]) := ov fun _ _ _ w hw => by
 obtain ⟨-, es, clk, since, c0, seen, h1, R, h3, h4, h5, h6, h7, h8⟩ := (hw.item _ hm).1
 obtain ⟨seen', e, rfl, he, rfl, hpe⟩ := h8 p rfl
 have := run_entry_at (P := P) w r b since seen' es c0 e h3 h1 he R.apart
 have hek : e.key = .int q (p.1 : Int) := congrArg Prod.fst hpe
 have hev : e.val = p.2 := congrArg Prod.snd hpe
 simp only [execOp, zau hx, Sem.run_bind, this, hek, hev]; rfl
end Go.Eng
namespace Go.Eng
open Go.RowKit
variable {P : Program} {Q : Exit → Act → World → Prop} {N : Fm} {l : zaq} {H : World → Prop} {ops : Array Oper} {rest : List Oper} {w0 : World} {F : Nat → Prop} {m m' : List Item} {ty : TypeId} {pos : String} {after : Array Edge} {g : Option (Nat × Bool)} {d : Nat}
def zlm (m : List Item) : List Nat → Option (List Item)
 | [] => some []
 | i :: r => match nth m i, zlm m r with
  | some x, some L => some (x :: L)
  | _, _ => none
def zq1 : List Nat → Bool
 | [] => true
 | i :: r => !qmg r i && zq1 r
theorem qae : ∀ {L : List Nat} {i : Nat}, qmg L i = true ↔ i ∈ L
 | [], _ => by simp [qmg]
 | x :: r, i => by
  simp only [qmg, gM, aJ, qae (L := r)]
  constructor
  ·rintro (h | h)
   ·exact .inl (fU h).symm
   ·exact .inr h
  ·rintro (rfl | h)
   ·exact .inl (kJ _)
   ·exact .inr h
theorem zps : ∀ {is : List Nat} {m' : List Item}, zlm m is = some m' → ∀ x ∈ m', ∃ i ∈ is, m[i]? = some x
 | [], m', h, x, hx => by simp only [zlm, cO] at h; subst h; cases hx
 | i :: r, m', h, x, hx => by
  simp only [zlm] at h
  split at h
  ·rename_i y L h1 h2
   simp only [cO] at h
   subst h
   rcases aJ.1 hx with rfl | hx
   ·exact ⟨i, by simp, by rw [← zpc]; exact h1⟩
   ·obtain ⟨j, hj, h3⟩ := zps h2 x hx
    exact ⟨j, by simp [hj], h3⟩
  ·cases h
theorem zpr (hm : m.Pairwise Item.Apart) : ∀ {is : List Nat} {m' : List Item}, zq1 is = true → zlm m is = some m' → m'.Pairwise Item.Apart
 | [], m', _, h => by simp only [zlm, cO] at h; subst h; exact .nil
 | i :: r, m', hd, h => by
  simp only [zq1, bH, eN] at hd
  simp only [zlm] at h
  split at h
  ·rename_i y L h1 h2
   simp only [cO] at h
   subst h
   refine bL.2 ⟨fun z hz => ?_, zpr hm hd.2 h2⟩
   obtain ⟨j, hj, h3⟩ := zps h2 z hz
   have hij : i ≠ j := fun e => by
    subst e
    have := qae.2 hj
    rw [hd.1] at this; cases this
   rw [zpc] at h1
   obtain ⟨a1, a2⟩ := aM.1 h1
   obtain ⟨b1, b2⟩ := aM.1 h3
   rcases Nat.lt_or_gt_of_ne hij with hlt | hlt
   ·have := cM.1 hm i j a1 b1 hlt
    rwa [a2, b2] at this
   ·have := cM.1 hm j i b1 a1 hlt
    rw [a2, b2] at this
    exact fun k h h' => this k h' h
  ·cases h
theorem Hp.pick {w : World} (hw : Hp w0 F m w) (is : List Nat) (hd : zq1 is = true) (h : zlm m is = some m') : Hp w0 F m' w :=
 ⟨hw.fr, fun it hm => by obtain ⟨i, -, hi⟩ := zps h it hm; exact hw.item it (cH hi), zpr hw.apart hd h⟩
theorem za0 (is : List Nat) (hd : zq1 is = true) (h : zlm m is = some m') (k : HL P ops Q N rest l (Hp w0 F m')) : HL P ops Q N rest l (Hp w0 F m) := zez (fun _ hw => hw.pick is hd h) k
theorem zde {c : Code} (is : List Nat) (hd : zq1 is = true) (h : zlm m is = some m') (k : HT P c Q N l (Hp w0 F m')) : HT P c Q N l (Hp w0 F m) := zlx (fun _ hw => hw.pick is hd h) k
theorem zec {e : Exit} (is : List Nat) (hd : zq1 is = true) (h : zlm m is = some m') (k : HX Q e N l (Hp w0 F m')) : HX Q e N l (Hp w0 F m) := zb3 (fun _ hw => hw.pick is hd h) k
theorem zfa {S : World → Prop} {t n : Nat} {listed : Array Bool} (is : List Nat) (hd : zq1 is = true) (h : zlm m is = some m') (k : HD P ops Q S t N n listed l (Hp w0 F m')) : HD P ops Q S t N n listed l (Hp w0 F m) := by
 unfold HD at *; exact fun inv a w s hw => k inv a w s (hw.pick is hd h)
theorem Hp.out {w : World} (hw : Hp w0 F m w) {b : Nat} (hb : b < w0.heap.size) (hF : ¬ F b) : ¬ zan m b := fun ⟨it, hm, hk⟩ => hF ((hw.item it hm).2.2 b hk |>.2 hb)
theorem Gh.In.lt {h : Gh} {w : World} (hi : h.In w) {b : Nat} (hb : (h b).isSome = true) : b < w.heap.size := by
 obtain ⟨o, ho⟩ := cG.1 hb
 exact (bC.1 (hi b o ho)).1
theorem Gh.In.out {h : Gh} {w : World} (hi : h.In w0) (hF : ∀ b, (h b).isSome = true → ¬ F b) (hw : Hp w0 F m w) : ∀ b, (h b).isSome = true → ¬ zan m b := fun b hb => hw.out (hi.lt hb) (hF b hb)
theorem qjk {f : FuncId} {x : Operand} {fs cs : List Value} {xs : List Operand} {tys : Array TypeId} {vs us : List Value} {pre : List Item} {α : Type} {val : α → Value} {φ : α → Prop} {its : α → List Item}
  (hok : ze5 N l (.call ⟨.value x, xs.toArray, tys⟩) d = true) (hb : zbu P f = true) (hf : evO l x = some (.func (.func f) fs.toArray cs.toArray)) (hx : evs l xs = some vs) (hu : fs ++ (vs ++ cs) = us) (hst : ∀ it ∈ pre, it.Stable none')
  (hc : ∀ w, Hp w0 F (pre ++ m) w → (∀ it ∈ pre, za1 it w) → pre.Pairwise Item.Apart → Ct P f us.toArray w (zan pre) val φ its) :
  HO P ⟨some d, .call ⟨.value x, xs.toArray, tys⟩, ty, pos, after, g⟩ Q N l (Hp w0 F (pre ++ m)) (α := { x : α // φ x }) (fun x => (d, val x.1) :: l) (fun x => Hp w0 F (its x.1 ++ m)) :=
 zr1 (val := fun x : { x : α // φ x } => val x.1) hok (zx1 hf hb hx hu) (fun w hw => (Ct.calls (hc w hw (fun it hm => have h := hw.item it (aK _ hm); ⟨h.1, hst it hm, fun k hk => (h.2.2 k hk).1⟩) (bP.1 hw.apart).1)).mono fun _ _ ⟨x, he, hx, hi⟩ => ⟨⟨x, hx⟩, he, hw.call hi fun _ _ ⟨it, hm, hk⟩ => ⟨it, hm, hk⟩⟩)
theorem qri {f : FuncId} {x : Operand} {fs cs : List Value} {xs : List Operand} {tys : Array TypeId} {vs us : List Value} {α : Type} {val : α → Value} {φ : α → Prop} {its : α → List Item}
  (hok : ze5 N l (.call ⟨.value x, xs.toArray, tys⟩) d = true) (hb : zbu P f = true) (hf : evO l x = some (.func (.func f) fs.toArray cs.toArray)) (hx : evs l xs = some vs) (hu : fs ++ (vs ++ cs) = us)
  (hc : ∀ w, Hp w0 F m w → Ct P f us.toArray w none' val φ its) :
  HO P ⟨some d, .call ⟨.value x, xs.toArray, tys⟩, ty, pos, after, g⟩ Q N l (Hp w0 F m) (α := { x : α // φ x }) (fun x => (d, val x.1) :: l) (fun x => Hp w0 F (its x.1 ++ m)) :=
 zr1 (val := fun x : { x : α // φ x } => val x.1) hok (zx1 hf hb hx hu) (fun w hw => (Ct.calls (hc w hw)).mono fun _ _ ⟨x, he, hx, hi⟩ => ⟨⟨x, hx⟩, he, hw.call0 hi⟩)
theorem zao {id : Nat} {r : List Oper} (is : List Nat) (t : Nat) (hd : zq1 is = true) (hp : zlm m is = some m') (hm : zk7 P r = true) (h : HD P r.toArray Q (Hp w0 F m') t N r.length (Array.replicate r.length false) l (Hp w0 F m)) : HT P (.region id r.toArray true) Q N l (Hp w0 F m) := by
 unfold HT HD at *
 intro a w s hw
 simp only [zk7, bH, eI] at hm
 refine wpIn_mono (wpIn_region_any (Q := znz Q) hm.1 (zz1 (by simpa using hm.2) zs3 N.r _ _ _ _ (zj1 (S := Hp w0 F m') (t := t) _ _ _ _ ?_))) (fun _ _ _ h => zs1 h)
 have := h (by simpa using zh0 r.toArray t) a w.drew s hw.drew
 simpa using this
end Go.Eng
namespace Go.Eng
open Go.RowKit
set_option maxRecDepth 100000
variable {P : Program} {Q : Exit → Act → World → Prop} {N : Fm} {l : zaq} {H : World → Prop} {ops : Array Oper} {rest : List Oper} {w0 : World} {F : Nat → Prop} {m m' : List Item} {ty : TypeId} {pos : String} {after : Array Edge} {g : Option (Nat × Bool)} {d : Nat}
/-! ### Reading -/
theorem Rd.take {w : World} {a : Option Addr} {xs : List Value} (h : Rd w a xs) (k : Nat) : Rd w a (xs.take k) := by
 rcases h with h | ⟨b, off, rfl, h⟩
 ·exact .inl (by rw [h]; exact List.take_nil)
 ·exact .inr ⟨b, off, rfl, zfx h⟩
theorem Rd.drop1 {w : World} {a : Option Addr} {xs : List Value} {c : Nat} (h : Rd w a xs) (i : Nat) (hc : xs.length ≤ c) : Rd w (zrc a (decide (c = i)) (i * 1)) (xs.drop i) := by
 by_cases hi : xs.length ≤ i
 ·exact .inl (gG hi)
 ·rcases h with h | ⟨b, off, rfl, h⟩
  ·exact .inl (by rw [h]; simp)
  ·rw [zb7 oQ, bK]
   exact .inr ⟨b, off + i, rfl, zg8 h⟩
theorem zap (s : List UInt8) : (zaf s).length = s.length := by simp [zaf]
theorem zxu (s : List UInt8) (n : Nat) : zaf (s.take n) = (zaf s).take n := by simp [zaf]
theorem zxt (s : List UInt8) (n : Nat) : zaf (s.drop n) = (zaf s).drop n := by simp [zaf]
theorem zjk (a b : List UInt8) : zaf (a ++ b) = zaf a ++ zaf b := by simp [zaf]
theorem zu5 {s : List UInt8} {i : Nat} (h : i < s.length) : (zaf s)[i]? = some (.int .u8 (s[i].toNat : Int)) := by simp [zaf, h]
theorem zeo (s : List UInt8) : zbx (zaf s) = true := by
 induction s with
 | nil => rfl
 | cons c s ih =>
  show (Value.oneCell' _ && zbx (zaf s)) = true
  rw [ih]; rfl
theorem Rd.byte {w : World} {a : Option Addr} {s : List UInt8} (h : Rd w a (zaf s)) {i : Nat} (hi : i < s.length) : ∃ b off, a = some ⟨b, off, none⟩ ∧ w.cell? ⟨b, off + i, none⟩ = some (.int .u8 (s[i].toNat : Int)) := by
 rcases h with h | ⟨b, off, rfl, h⟩
 ·have := congrArg List.length h
  rw [zap] at this
  simp at this; subst this; simp at hi
 ·exact ⟨b, off, rfl, h i _ (zu5 hi)⟩
theorem za1.fr {it : Item} {w w' : World} (h : za1 it w) (hf : Fr none' w w') : za1 it w' :=
 ⟨h.2.1 w w' (fun k hk => hk.elim (fun f => f.elim) fun hk => hf.block k (h.2.2 k hk) (fun h => h)) h.1, h.2.1, fun k hk => bG (h.2.2 k hk) hf.size⟩
/-! ### Two ways that come together -/
theorem znq {n : Nat} {ds : List Deferred} {r : Option Nat} {x y : Code} {α : Type} (L : α → zaq) (φ : α → Prop) (M : α → List Item)
  (h : HT P x (Exit.then (fun a w => ∃ z, φ z ∧ St ⟨n, ds, r⟩ (L z) a ∧ Hp w0 F (M z) w) Q) ⟨n, ds, r⟩ l H) (k : ∀ z, φ z → HT P y Q ⟨n, ds, r⟩ (L z) (Hp w0 F (M z))) : HT P x (Exit.then (WP P r y Q) Q) ⟨n, ds, r⟩ l H := by
 unfold HT at *
 refine fun a w s hw => WP.mono (fun e a' w' q => ?_) (h a w s hw)
 cases e with
 | normal => obtain ⟨z, h1, h2, h3⟩ := q; exact k z h1 a' w' h2 h3
 | _ => exact q
theorem zd5 {α : Type} {L : α → zaq} {φ : α → Prop} {M : α → List Item} (z : α) (hl : Has l (L z)) (hφ : φ z) (hI : ∀ w, Hp w0 F m w → Hp w0 F (M z) w) : HX (Exit.then (fun a w => ∃ z, φ z ∧ St N (L z) a ∧ Hp w0 F (M z) w) Q) .normal N l (Hp w0 F m) := by
 unfold HX
 exact fun a w s hw => ⟨z, hφ, s.sub hl.sub, hI w hw⟩
theorem Hp.beside {w w' : World} {pre : List Item} (hw : Hp w0 F (pre ++ m) w) {D : Item} (hm : D ∈ m) (hs : D.Stable none') (hf : Fr (zan pre) w w') : D.prop w' :=
 hs w w' (fun k hk => hk.elim (fun f => f.elim) fun hk => hf.block k ((hw.item D (aP _ hm)).2.2 k hk).1 (fun ⟨it, h1, h2⟩ => (bP.1 hw.apart).2.2 it h1 D hm k h2 hk)) (hw.item D (aP _ hm)).1
theorem qqo (n : Nat) : zcw (.int .u8 0) n = zaf (List.replicate n 0) := by
 apply List.ext_getElem?
 intro i
 simp only [zcw, zaf, aN]
 by_cases h : i < n
 ·rw [dV h, gD, if_pos h]
  have : i % (Value.int .u8 0).cells.size = 0 := jY i
  simp only [cK, this]; rfl
 ·rw [cR (by simpa using kL.1 h), cR (by simpa using kL.1 h)]; rfl
/-! ### Comparison with nil -/
theorem qqa {T U e : TypeId} {x y : Operand} {a : Option Addr} {n c : Nat} (hx : evO l x = some (.slice a n c)) (hy : evO l y = some (.slice none 0 0)) (hT : zks P T = some e) : OV P (.binOp .eql T x y U) ty l H (.bool a.isNone) := zfm hx hy fun w => by
 show ((do pure (.bool (← Op.equal T (.slice a n c) (.slice none 0 0))) : Sem Value).run P w) = _
 rw [Sem.run_bind, run_equal_slice_nil w T e a n c (zbk hT)]; rfl
/-! ### An empty literal -/
theorem qji {T e : TypeId} {sz : Nat} (hok : ze5 N l (.buildSlice T 0 #[]) d = true) (hT : zks P T = some e) (hi : (P.info? e).isSome = true) :
  HO P ⟨some d, .buildSlice T 0 #[], ty, pos, after, g⟩ Q N l (Hp w0 F m) (α := { b : Nat // w0.heap.size ≤ b }) (fun c => (d, slV (some (c.1, 0)) 0) :: l) (fun c => Hp w0 F (own e sz (some (c.1, 0)) 0 [] :: m)) :=
 zh5 (val := fun c : { b : Nat // w0.heap.size ≤ b } => slV (some (c.1, 0)) 0) hok (fun w hw => by
  obtain ⟨i, h1⟩ := cG.1 hi
  refine ⟨⟨w.heap.size, hw.fr.size⟩, w.alloc (.cells #[] e), ?_, hw.newOwn ⟨by simp, aX _, aV _, #[], heap_alloc_new w _, by simp, by simp⟩⟩
  simp only [execOp, Instr.buildSlice, Sem.run_bind, run_underlying (zbk hT) w, Result.andThen_ok, sizeOf, typeInfo]
  simp [newRow, h1, Instr.fill, slV]
  rw [show Array.map (fun _ : Nat => (default : Value)) (Array.range 0) = #[] from iS sQ])
/-! ### Texts and bytes -/
def u8E (P : Program) (T : TypeId) : Option TypeId := match P.underlying T with | some (.slice e) => (match P.underlying e with | some (.int .u8) => some e | _ => none) | _ => none
theorem zum {T e : TypeId} (h : u8E P T = some e) : P.underlying T = some (.slice e) ∧ P.underlying e = some (.int .u8) := by
 unfold u8E at h
 split at h
 ·rename_i hu
  split at h
  ·rename_i he; cases h; exact ⟨hu, he⟩
  ·cases h
 ·cases h
theorem zq0 (s : ByteArray) (c : Nat) (h : s.size ≤ c) : bytesRow s c = (zaf s.data.toList ++ List.replicate (c - s.size) (Value.int .u8 0)).toArray := by
 apply Array.ext'
 simp [bytesRow, zaf]
abbrev zp9 (e : TypeId) (s : List UInt8) (b c : Nat) : Item := pt b (.cells (zaf s ++ List.replicate (c - s.length) (Value.int .u8 0)).toArray e (c, c + 1))
theorem zlw {w : World} {e : TypeId} {s : List UInt8} {b c : Nat} (h : (zp9 e s b c).prop w) : w.rangeAt b 0 (zaf s) := fun j v hj => by
 refine za7 h j v ?_
 rw [cE (aM.1 hj).1]; exact hj
theorem qas {S T e : TypeId} {x : Operand} {s : ByteArray} (hok : ze5 N l (.convert S T x) d = true) (hx : evO l x = some (.string s)) (hS : P.underlying S = some .string) (hT : u8E P T = some e) :
  HO P ⟨some d, .convert S T x, ty, pos, after, g⟩ Q N l (Hp w0 F m) (α := { p : Nat × Nat // w0.heap.size ≤ p.1 ∧ s.size ≤ p.2 }) (fun p => (d, .slice (some ⟨p.1.1, 0, none⟩) s.size p.1.2) :: l) (fun p => Hp w0 F (zp9 e s.data.toList p.1.1 p.1.2 :: m)) :=
 zh5 (val := fun p : { p : Nat × Nat // w0.heap.size ≤ p.1 ∧ s.size ≤ p.2 } => .slice (some ⟨p.1.1, 0, none⟩) s.size p.1.2) hok (fun w hw => by
  have hg := grownCap_ge w s.size 0 e
  refine ⟨⟨(w.heap.size, grownCap w s.size 0 e), hw.fr.size, hg⟩, _, by simp only [execOp, zau hx, Sem.run_bind, run_bytes_of_string (P := P) w S T e s hS (zum hT).1 (zum hT).2]; rfl, ?_⟩
  have hsz : (bytesRow s (grownCap w s.size 0 e)).size = grownCap w s.size 0 e := by simp [bytesRow]; omega
  rw [hsz, zq0 s _ hg]
  have h1 := (hw.drew).alloc (.cells (zaf s.data.toList ++ List.replicate (grownCap w s.size 0 e - s.size) (Value.int .u8 0)).toArray e (grownCap w s.size 0 e, grownCap w s.size 0 e + 1))
  show Hp w0 F (pt w.heap.size (.cells (zaf s.data.toList ++ List.replicate (grownCap w s.size 0 e - s.data.toList.length) (Value.int .u8 0)).toArray e (grownCap w s.size 0 e, grownCap w s.size 0 e + 1)) :: m) _
  rw [zom s]
  exact h1)
theorem zsw {S T e : TypeId} {x : Operand} {a : Option Addr} {n c : Nat} {bs : List UInt8} (hx : evO l x = some (.slice a n c)) (hn : n = bs.length) (hS : u8E P S = some e) (hd : P.underlying T = some .string)
  (hr : ∀ w, Hp w0 F m w → Rd w a (zaf bs)) : OV P (.convert S T x) ty l (Hp w0 F m) (.string ⟨bs.toArray⟩) := ov fun _ _ _ w hw => by
 obtain ⟨hs, he⟩ := zum hS
 rcases hr w hw with h | ⟨b, off, rfl, h⟩
 ·have hz : bs = [] := by cases bs with | nil => rfl | cons c r => simp [zaf] at h
  subst hz
  subst hn
  cases a with
  | none => simp [execOp, zau hx, convert, Sem.run_bind, run_underlying hs w, run_underlying hd w, run_underlying he w, Conv.bytesToString]; rfl
  | some a =>
   simp only [execOp, zau hx, Sem.run_bind, run_convert_bytes_back (P := P) w S T e a c [] hs he hd (fun j hj => by simp at hj)]
   exact congrArg (fun r => (Result.ok r w).andThen _) rfl
 ·subst hn
  simp only [execOp, zau hx, Sem.run_bind, run_convert_bytes_back (P := P) w S T e ⟨b, off, none⟩ c bs hs he hd (fun j hj => by rw [zc9]; exact h j _ (zu5 hj))]
  rfl
/-! ### Arrays as slices -/
theorem zun {T e : TypeId} {x : Operand} {b i n sz : Nat} (hx : evO l x = some (.pointer (some ⟨b, i, none⟩))) (hT : P.underlying T = some (.array n e)) (he : zc3 P e = some sz) (hn : Nat.ble 1 n = true) : OV P (.slice T x none none none) ty l H (.slice (some ⟨b, i, none⟩) n n) := ov fun _ _ _ w _ => by
 obtain ⟨q, h1, h2⟩ := zbp he
 have hn' := bN hn
 have hne : ¬ n = 0 := oQ
 simp [execOp, zau hx, Instr.sliceAt, Instr.sureAddr, run_underlying hT w, Instr.sliceBounds, sizeOf, typeInfo, h1, hne, Addr.add]
theorem zw3 {T e : TypeId} {x : Operand} {a : Option Addr} {n k c : Nat} (hx : evO l x = some (.slice a k c)) (hT : P.underlying T = some (.array n e)) (hn : n ≤ k) : OV P (.sliceToArrayPointer T x) ty l H (.pointer a) := ov fun _ _ _ w _ => by
 have : ¬ k < n := oQ
 simp [execOp, zau hx, Instr.arrayAt, run_underlying hT w, this]
theorem zc5 (o : Option (Nat × Nat)) (n : Nat) : (slV o n).cells = #[slV o n] := by cases o <;> rfl
theorem zdj (o : Option (Nat × Nat)) (n : Nat) : (slV o n).oneCell' = true := by cases o <;> rfl
/-! ### Numbers -/
theorem zsx {x y : Operand} {T U : TypeId} {a b : Int} (hx : evO l x = some (.int .i64 a)) (hy : evO l y = some (.int .i64 b)) (h : -9223372036854775808 ≤ a - b ∧ a - b < 9223372036854775808) : OV P (.binOp .sub T x y U) ty l H (.int .i64 (a - b)) := zfm hx hy fun w => ze4 w (zvo _ h.1 h.2)
theorem qrw {T : Array TypeId} {x y : Operand} {k k' : IntKind} {a b : Int} {i j : Nat} [h : NatOf a i] [h' : NatOf b j] (hx : evO l x = some (.int k a)) (hy : evO l y = some (.int k' b)) : OV P (.call ⟨.builtin .max, #[x, y], T⟩) ty l H (.int k (max i j : Nat)) := ov fun _ _ _ w _ => by
 obtain rfl := h.eq; obtain rfl := h'.eq
 simp only [execOp, resolve, invoke, builtin]
 simp [zau hx, zau hy, run_max_int2]
 split <;> omega
theorem qkb {S T : TypeId} {x : Operand} {k k' : IntKind} {a : Int} {n L q : Nat} [h : NatOf a n] [hL : Uns k' L q] (hx : evO l x = some (.int k a)) (hS : (P.underlying S).isSome = true) (hT : qo4 P T = some k') : OV P (.convert S T x) ty l H (.int k' ((n % L : Nat) : Int)) := ov fun _ _ _ w _ => by
 obtain rfl := h.eq
 obtain ⟨u, hu⟩ := cG.1 hS
 simp only [execOp, zau hx, convert, Sem.run_bind, run_underlying hu w, run_underlying (zvu hT) w, Result.andThen_ok, Conv.intToInt, Sem.run_pure, hL.wrap n]
theorem qpy (a : Nat) (c : Nat) (h : a * 256 + 255 < 18446744073709551616) (hc : c < 256) : (a * 2 ^ 8 % 18446744073709551616) ||| c = a * 256 + c := by
 rw [aY oQ]
 have := Nat.shiftLeft_add_eq_or_of_lt (i := 8) (b := c) oQ a
 rw [Nat.shiftLeft_eq] at this
 rw [← this]
theorem zd6 {w : World} (e : TypeId) (sz : Nat) (h : Hp w0 F m w) : Hp w0 F (own e sz none 0 [] :: m) w := Hp.call0 (L := [own _ sz none 0 []]) h ⟨.refl _ _, fun it hm => by
 obtain rfl : it = own e sz none 0 [] := by simpa using hm
 exact ⟨⟨by simp, rfl⟩, zab _ _ _ _ _ _, fun k ⟨c, hk⟩ => nomatch hk⟩, .cons (fun _ h => nomatch h) .nil⟩
end Go.Eng
namespace Go.Eng
open Go.RowKit
variable {P : Program} {Q : Exit → Act → World → Prop} {N : Fm} {l : zaq} {ops : Array Oper} {rest : List Oper} {w0 : World} {F : Nat → Prop} {m : List Item}
theorem Hp.close1 {w : World} {L : List Item} (hs : ∀ it ∈ L, it.Stable none') (h : Hp w0 F (L ++ m) w) : Hp w0 F (zg3 L :: m) w := by
 refine ⟨h.fr, fun it hm => ?_, bL.2 ⟨fun y hy k ⟨x, hx, hkx⟩ hky => (bP.1 h.apart).2.2 x hx y hy k hkx hky, (bP.1 h.apart).2.1⟩⟩
 rcases aJ.1 hm with rfl | hm
 ·refine ⟨⟨fun it hm => ?_, (bP.1 h.apart).1⟩, (zad L).ro _, fun k ⟨it, hm, hk⟩ => (h.item it (aK _ hm)).2.2 k hk⟩
  have hi := h.item it (aK _ hm)
  exact ⟨hi.1, hs it hm, fun k hk => (hi.2.2 k hk).1⟩
 ·exact h.item it (aP _ hm)
theorem qsl {n sz : Nat} {cs : Array Value} (h : cs.size = sz) (h2 : sz ≤ n) : zdi n [(0, sz, .agg cs)] = true := by
 simp [zdi, Value.cells, h, h2]
theorem qsj {zs cs : List Value} {k : Nat} (h : zs.length = cs.length) : zen zs [(0, k, .agg cs.toArray)] = cs := by
 show over zs 0 cs = cs
 unfold over
 rw [aF, ← h, kD, jQ]
 simp
theorem za1.of {it : Item} {w : World} (h : it.In w0 F w) (hs : it.Stable none') : za1 it w := ⟨h.1, hs, fun k hk => (h.2.2 k hk).1⟩
theorem za1.keep {it : Item} {w0 w : World} {m : List Item} (h : za1 it w0) (hw : Hp w0 none' m w) : za1 it w := za1.fr h hw.fr
end Go.Eng
namespace Go.Proofs.YtkkfifhaobjicaaGreatDoor
open Go.RowKit Go.Eng
set_option maxRecDepth 100000
set_option maxHeartbeats 40000000
theorem bal (s : Bys) : (⟨s.toArray⟩ : ByteArray).size = s.length := by simp [ByteArray.size]
structure Dsk where
 on : List Bys
 wait : List (Bys × Nat)
 left : Option Nat
 keep : Bys
 dead : Bool
structure Dk where
 b : Nat
 onB : Nat
 w : Option (Nat × Nat)
 acts : Nat
 D : Dsk
def ze9 (l : List Bys) : List Value := l.flatMap zaf
def wrV (p : Bys × Nat) : List Value := zaf p.1 ++ [.int .i64 (p.2 : Int)]
def zo5 : Option Nat → Int
 | none => -1
 | some n => (n : Int)
abbrev zev (d : Dk) : List Value := [.int .i64 (zo5 d.D.left), .string ⟨d.D.keep.toArray⟩, .slice (some ⟨d.onB, 0, none⟩) d.D.on.length d.D.on.length, slV d.w d.D.wait.length, .bool d.D.dead, .int .u64 (d.acts : Nat)]
def dkL (d : Dk) : List Eng.Item := [pt d.b (.cells (zev d).toArray 149 (0, 0)), pt d.onB (.cells (ze9 d.D.on).toArray 187 (0, 0)), own 189 513 d.w d.D.wait.length (zc4 wrV d.D.wait)]
def dkI (d : Dk) : Eng.Item := zg3 (dkL d)
theorem zrn (d : Dk) : ∀ it ∈ dkL d, it.Stable none' := by simp [dkL, zac, zab]
structure Dsk.Ok (D : Dsk) : Prop where
 size : ∀ s ∈ D.on, s.length = 512
 wsize : ∀ p ∈ D.wait, p.1.length = 512 ∧ p.2 < D.on.length
 many : D.on.length ≤ 4096
 left : ∀ n, D.left = some n → n ≤ 9223372036854775807
theorem zfz (is : Bool) (e : Nat) (w : World) : Pu Tryz.prog 117 #[.bool is, .int .i64 e] w (.int .i64 (if is then 0 else e : Nat)) := by
 refine zbh [_, _] Tryz.func117 rfl rfl ?_
 simp only [zaa, Nat.reduceAdd]
 cases is with
 | true =>
  rw [if_pos rfl]
  refine goA ?_
  exact zcz rfl rfl rfl
 | false =>
  rw [if_neg dQ]
  refine goA ?_
  exact zcz rfl rfl rfl
def zii (l : List Nat) : Nat := (l.find? fun e => decide (e ≠ 0)).getD 0
def qe3 (l : List Nat) : List Value := l.map fun e : Nat => Value.int .i64 (e : Int)
theorem zke (L : List Nat) (a : Option Addr) (c : Nat) (hn : L.length ≤ 1000) (w : World) (hr : Rd w a (qe3 L)) : Pu Tryz.prog 114 #[.slice a L.length c] w (.int .i64 (zii L : Nat)) := by
 refine zbh [_] Tryz.func114 rfl rfl ?_
 simp only [zaa]
 refine goA ?_
 refine zcp (α := Nat) (fun i => [(5, .slice a L.length c), (6, .int .i64 L.length), (7, .int .i64 i)]) (fun i => i ≤ L.length ∧ ∀ e ∈ L.take i, e = 0) (fun _ => []) (fun i => L.length - i) 0 ⟨rfl, rfl, rfl, trivial⟩ ⟨aV _, fun _ h => nomatch h⟩ (fun w' hw' => hw') fun i ⟨hi, hz⟩ => ?_
 by_cases hi2 : i < L.length
 ·have hlen : (qe3 L).length = L.length := by simp [qe3]
  have hat : (qe3 L)[i]? = some (.int .i64 (L[i] : Nat)) := by simp [qe3, hi2]
  have hsp : L = L.take i ++ (L[i] :: L.drop (i + 1)) := by rw [dG, bE]
  have hup : L.take (i + 1) = L.take i ++ [L[i]] := cT hi2
  have hfe : ∀ e, L[i] = e → e ≠ 0 → zii L = e := fun e he h0 => by
   rw [zii, hsp, gS, dP.2 fun x hx => by simp [hz x hx], he]
   simp [h0]
  obtain ⟨b, off, rfl, hcell⟩ := hr.at_ (fun e => by rw [e] at hlen; simp at hlen; omega)
  have hci := hcell i _ hat
  generalize L[i] = e at hci hup hfe
  refine goA ?_
  refine l_w rfl (zay rfl rfl (fun w' hw' => hw'.old (fun h => h) hci)) ?_
  refine goA ?_
  by_cases h0 : e = 0
  ·subst h0
   refine goA ?_
   exact zav (i + 1) ⟨rfl, rfl, rfl, trivial⟩ ⟨hi2, fun x hx => by
    rw [hup] at hx
    rcases aS.1 hx with hx | hx
    ·exact hz x hx
    ·exact aL.1 hx⟩ (fun w' hw' => hw') oQ
  ·rw [hfe e rfl h0]
   refine goA ?_
   exact zcz rfl rfl rfl
 ·obtain rfl : i = L.length := oQ
  rw [gZ] at hz
  have : zii L = 0 := by rw [zii, dP.2 fun x hx => by simp [hz x hx]]; rfl
  rw [this]
  refine goA ?_
  exact zcz rfl rfl rfl
theorem qex {d : Dk} {w : World} (h : za1 (dkI d) w) (i : Nat) {v : Value} (hv : (zev d)[i]? = some v) : w.cell? ⟨d.b, i, none⟩ = some v :=
 zdv (h.1.1 (pt d.b (.cells (zev d).toArray 149 (0, 0))) (.head _)).1 (by rw [eP]; exact hv)
theorem zzk (b : Nat) (w : World) : Pu Tryz.prog 155 #[.pointer (some ⟨b, 0, none⟩)] w (.int .i64 0) := by
 refine zbh [_] Tryz.func155 rfl rfl ?_
 simp only [zaa]
 refine goA ?_
 refine lPu rfl (fun w1 hw1 => zfz true 1 w1) ?_
 refine goA ?_
 exact zcz rfl rfl rfl
theorem zxl (d : Dk) (w : World) (h : za1 (dkI d) w) : Pu Tryz.prog 156 #[.pointer (some ⟨d.b, 0, none⟩)] w (.bool (!d.D.dead)) := by
 refine zbh [_] Tryz.func156 rfl rfl ?_
 simp only [zaa]
 refine goA ?_
 refine l_w rfl (zay rfl rfl (fun w' hw' => qex (h.keep hw') 4 rfl)) ?_
 refine goA ?_
 exact zcz rfl rfl rfl
theorem zhp (d : Dk) (w : World) (h : za1 (dkI d) w) : Pu Tryz.prog 76 #[.pointer (some ⟨d.b, 0, none⟩)] w (.int .i64 d.D.on.length) := by
 refine zbh [_] Tryz.func76 rfl rfl ?_
 simp only [zaa]
 refine goA ?_
 refine l_w rfl (zay rfl rfl (fun w' hw' => qex (h.keep hw') 2 rfl)) ?_
 refine goA ?_
 exact zcz rfl rfl rfl
theorem zkp (d : Dk) (w : World) (h : za1 (dkI d) w) : Pu Tryz.prog 115 #[.pointer (some ⟨d.b, 0, none⟩)] w (.int .i64 (if d.D.dead then 4 else 0 : Nat)) := by
 refine zbh [_] Tryz.func115 rfl rfl ?_
 simp only [zaa]
 refine goA ?_
 refine lPu rfl (fun w1 hw1 => zzk d.b w1) ?_
 refine goA ?_
 refine lPu rfl (fun w1 hw1 => zxl d w1 (h.keep hw1)) ?_
 refine lPu rfl (fun w1 hw1 => zfz (!d.D.dead) 4 w1) ?_
 refine zaz rfl (zba rfl rfl rfl rfl rfl rfl) fun ⟨bq, hbq⟩ => ?_
 refine lPu rfl (fun w1 hw1 => zke [0, if !d.D.dead then 0 else 4] (some ⟨bq, 0, none⟩) 2 sQ w1 (zbl (o := some (bq, 2)) (hw1.item _ (.head _)).1)) ?_
 refine goA ?_
 refine zcz rfl rfl ?_
 cases d.D.dead <;> rfl
theorem zoz (d : Dk) (at_ : Nat) (hat : at_ < 9223372036854775808) (w : World) (h : za1 (dkI d) w) : Pu Tryz.prog 116 #[.pointer (some ⟨d.b, 0, none⟩), .int .i64 at_] w (.int .i64 (if at_ < d.D.on.length then 0 else 2 : Nat)) := by
 refine zbh [_, _] Tryz.func116 rfl rfl ?_
 simp only [zaa, Nat.reduceAdd]
 refine goA ?_
 refine lPu rfl (fun w1 hw1 => zhp d w1 (h.keep hw1)) ?_
 by_cases hl : at_ < d.D.on.length
 ·rw [if_pos hl]
  refine goA ?_
  refine zcr 12 _ (.bool true) rfl (congrArg Value.bool (decide_eq_true oQ)) ?_
  refine lPu rfl (fun w1 hw1 => zfz true 2 w1) ?_
  refine goA ?_
  exact zcz rfl rfl rfl
 ·rw [if_neg hl]
  refine goA ?_
  refine zcr 12 _ (.bool false) rfl (congrArg Value.bool (decide_eq_false oQ)) ?_
  refine lPu rfl (fun w1 hw1 => zfz false 2 w1) ?_
  refine goA ?_
  exact zcz rfl rfl rfl
end Go.Proofs.YtkkfifhaobjicaaGreatDoor
namespace Go.Eng
open Go.RowKit Go.Lib
variable {P : Program} {Q : Exit → Act → World → Prop} {N : Fm} {l : zaq} {ops : Array Oper} {rest : List Oper} {w0 : World} {F : Nat → Prop} {m : List Item} {pos : String} {after : Array Edge} {g : Option (Nat × Bool)} {d : Nat}
def zq7 (e : TypeId) (o : Option (Nat × Nat)) (n : Nat) (xs : List Value) : Item :=
 ⟨fun k => ∃ c, o = some (k, c), fun w => w.ownsRowF 0 e 1 (slV o n) n xs⟩
theorem zbd (ro : Nat → Prop) (e : TypeId) (o : Option (Nat × Nat)) (n : Nat) (xs : List Value) : (zq7 e o n xs).Stable ro := by
 intro w w' h ⟨h1, h2⟩
 refine ⟨h1, ?_⟩
 rcases h2 with h2 | ⟨b, cap, cur, fz, hv, hb, hg, h3⟩
 ·exact .inl h2
 ·refine .inr ⟨b, cap, cur, fz, hv, hb, ?_, h3⟩
  match o, hv with
  | none, hv => cases hv
  | some (k, c), hv =>
   cases hv
   rw [h b (.inr ⟨_, rfl⟩)]; exact hg
theorem zob {w : World} {e : TypeId} {o : Option (Nat × Nat)} {n : Nat} {xs : List Value} (h : (own e 1 o n xs).prop w) : (zq7 e o n xs).prop w := World.ownsRowF_of (zt4 h)
theorem zt3 {w : World} {e : TypeId} {o : Option (Nat × Nat)} {n : Nat} {xs : List Value} (h : (zq7 e o n xs).prop w) : xs.length = n := by have := h.1; simpa using this
theorem zoa {w w' : World} {e : TypeId} {n : Nat} {o o' : Option (Nat × Nat)} {xs : List Value} (hp : (zq7 e o' n xs).prop w') (hf : Fr (fun k => ∃ c, o = some (k, c)) w w') (hn : ∀ b c, o' = some (b, c) → w.heap.size ≤ b ∨ ∃ c', o = some (b, c')) : Its (fun k => ∃ c, o = some (k, c)) w [zq7 e o' n xs] w' := by
 refine ⟨hf, fun it hm => ?_, .cons (fun _ h => nomatch h) .nil⟩
 rw [aL] at hm
 subst hm
 refine ⟨hp, zbd _ _ _ _ _, fun k ⟨c, hk⟩ => ⟨?_, fun hlt => ?_⟩⟩
 ·subst hk
  rcases hp.2 with ⟨h, -⟩ | ⟨b, cap, cur, fz, hv, -, hg, -⟩
  ·cases h
  ·cases hv
   exact (bC.1 hg).1
 ·rcases hn k c hk with h | h
  ·omega
  ·exact h
theorem qic {t u ty' e : TypeId} {i : TypeInfo} (ht : P.underlying t = some (.slice e)) (hu : P.underlying u = some .string) (hi : P.info? e = some i) (hz : i.zero = some (.int .u8 0)) (hs1 : i.size = 1) (hby : i.bytes = 1)
  {w : World} {o : Option (Nat × Nat)} {n : Nat} {xs : List Value} (hown : (zq7 e o n xs).prop w) (s : ByteArray) (h63 : n + s.size ≤ 140737488355328) :
  ∃ o' w', (Builtin.append_ #[t, u] ty' #[slV o n, .string s]).run P w = .ok (slV o' (n + s.size)) w' ∧ Its (fun k => ∃ c, o = some (k, c)) w [zq7 e o' (n + s.size) (xs ++ strCells s)] w' := by
 match o, hown with
 | none, hown =>
  obtain rfl : n = 0 := by
   rcases hown.2 with ⟨-, h⟩ | ⟨b, cap, cur, fz, hv, -⟩
   ·exact h
   ·cases hv
  have hx0 : xs = [] := bM (zt3 hown)
  subst hx0
  obtain ⟨o', w', hr, hits⟩ := qed (P := P) (ty' := ty') ht hu hi hz hs1 hby (o := none) (n := 0) (xs := []) (w := w) ⟨rfl, rfl⟩ s h63
  refine ⟨o', w', hr, zoa (zob (hits.item _ (.head _)).1) hits.fr fun b c hb => ?_⟩
  have h := (hits.item _ (.head _)).2.2 b ⟨c, hb⟩
  rcases gK b w.heap.size with hl | hl
  ·obtain ⟨c', h'⟩ := h.2 hl
   cases h'
  ·exact .inl hl
 | some (b, cap), hown =>
  have hxl := zt3 hown
  rcases hown.2 with ⟨h, -⟩ | ⟨b2, cap2, cur, fz, hv, -, h4, hfz, h2, h3, h5, h6⟩
  ·cases h
  cases hv
  rw [bK] at h5 h6 hfz
  have hlen : (xs ++ strCells s).length = (n + s.size) * 1 := by rw [aA, hxl, strCells_length, bK]
  have hmx : n + s.size ≤ maxLen := by unfold maxLen; omega
  by_cases hroom : n + s.size ≤ cap
  ·have hr := Lib.run_append_room_stringF (P := P) w t u ty' e i ht hu hi hs1 b n cap cur fz h4 hfz s hroom oQ
   refine ⟨some (b, cap), _, hr, zoa ⟨hlen, .inr ⟨b, cap, _, fz, rfl, aV _, setRow_heap w b cur _ e _ h4, oQ, hroom, h3, ?_, ?_⟩⟩ (zkg rfl rfl rfl sQ fun j _ hj => setRow_other w b j _ (fun e => hj ⟨cap, by rw [e]⟩)) (fun b' c' h => .inr ⟨c', h⟩)⟩
   ·simp only [bR, aA, aO, aU, fL, strCells_length]
    omega
   ·rw [h6, ← hlen]
    exact fS
  ·have hr := run_append_grow_string (P := P) w t u ty' e i (.int .u8 0) ht hu hi hz ⟨b, 0, none⟩ n cap xs (by rw [hs1]; simpa using hxl) (hown.cells (g := b) rfl) s oQ oQ (by rw [hby]; exact growslice_fits oQ oQ)
   have hge := grownCap_ge w (n + s.size) cap e
   refine ⟨some (w.heap.size, grownCap w (n + s.size) cap e), _, hr, zoa ⟨hlen, .inr ⟨w.heap.size, _, _, (0, 0), rfl, aV _, heap_alloc_new w.drew _, aV _, hge, grownCap_le_maxLen w (n + s.size) cap e hmx, ?_, ?_⟩⟩ (zkg rfl rfl rfl sQ fun j hj _ => Below.heap_alloc w.drew _ j hj) (fun b c' h => .inl (by cases h; exact aX _))⟩
   ·have hz1 : (Value.int IntKind.u8 0).cells.size = 1 := rfl
    simp only [jU, bR, size_zeroCells, hz1, hxl, strCells_length]
    omega
   ·simp only [gC, aH]
    rw [← aH, ← hlen]
    exact fS
theorem qf7 {T U T' e : TypeId} {x y : Operand} {o : Option (Nat × Nat)} {n : Nat} {xs : List Value} {s : ByteArray} (hok : ze5 N l (.call ⟨.builtin .append, #[x, y], #[T, U]⟩) d = true) (hx : evO l x = some (slV o n)) (hy : evO l y = some (.string s))
  (hT : zks P T = some e) (hU : P.underlying U = some .string) (he : qih P e = true) (hn : n + s.size ≤ 140737488355328) :
  HO P ⟨some d, .call ⟨.builtin .append, #[x, y], #[T, U]⟩, T', pos, after, g⟩ Q N l (Hp w0 F (zq7 e o n xs :: m)) (α := Option (Nat × Nat)) (fun o' => (d, slV o' (n + s.size)) :: l) (fun o' => Hp w0 F (zq7 e o' (n + s.size) (xs ++ zaf s.data.toList) :: m)) :=
 zh5 (val := fun o' => slV o' (n + s.size)) hok (fun w hw => by
  obtain ⟨i, h1, h2, h3, h4⟩ := zri he
  obtain ⟨o', w', hr, hits⟩ := qic (P := P) (ty' := T') (zbk hT) hU h1 h2 h3 h4 (hw.item (zq7 e o n xs) (.head _)).1 s hn
  rw [zp8] at hits
  refine ⟨o', w', ?_, Hp.call (m := [zq7 e o n xs]) hw hits (fun k' _ hk => ⟨zq7 e o n xs, by simp, hk⟩)⟩
  simp only [execOp, resolve, invoke, builtin]
  simp [zau hx, zau hy, hr])
theorem zx4 {w : World} {b n : Nat} {cur : Array Value} {e : TypeId} {fz : Nat × Nat} (h : w.heap[b]? = some (.cells cur e fz)) (h2 : fz.2 ≤ n) : ∃ fz', (w.freeze ⟨b, 0, none⟩ n).heap[b]? = some (.cells cur e fz') ∧ fz'.2 ≤ n := by
 unfold World.freeze
 split
 ·exact ⟨fz, h, h2⟩
 ·obtain ⟨lo, hi⟩ := fz
  refine ⟨if lo == hi then (0, 0 + n) else (min lo 0, max hi (0 + n)), ?_, ?_⟩
  ·simp only [gO, h, if_true, cK]
  ·split
   ·simp
   ·simp only at h2 ⊢
    omega
theorem qms {pt' it' T' e : TypeId} {x y : Operand} {b c n : Nat} {k : Int} [h : NatOf k n] {s : ByteArray} (hok : ze5 N l (.call ⟨.builtin .unsafeString, #[x, y], #[pt', it']⟩) d = true) (hx : evO l x = some (.pointer (some ⟨b, 0, none⟩))) (hy : evO l y = some (.int .i64 k)) (hT : qk7 P pt' = some e) (hc : P.cellsOf e = 1) (h0 : 0 < n) (hn : n = s.size) :
  HO P ⟨some d, .call ⟨.builtin .unsafeString, #[x, y], #[pt', it']⟩, T', pos, after, g⟩ Q N l (Hp w0 F (zq7 e (some (b, c)) n (zaf s.data.toList) :: m)) (α := Unit) (fun _ => (d, .string s) :: l) (fun _ => Hp w0 F (zq7 e (some (b, c)) n (zaf s.data.toList) :: m)) := by
 obtain rfl := h.eq
 exact zh5 (val := fun _ => .string s) hok (fun w hw => by
  have hp := (hw.item (zq7 e (some (b, c)) n (zaf s.data.toList)) (.head _)).1
  have hlen := zt3 hp
  rcases hp.2 with ⟨h, -⟩ | ⟨b2, cap2, cur, fz, hv, -, h3, hfz, h2, h4, h5, h6⟩
  ·cases h
  cases hv
  rw [bK] at h5 h6 hfz
  have hsh : w.shape? b = some (e, cur.size) := by simp [World.shape?, h3]
  have hsl : s.data.toList.length = n := by rw [zom]; exact hn.symm
  have hr := Lib.run_unsafeString_row (P := P) w pt' it' T' e (zhv hT).1 hc b cur.size hsh s.data.toList (by intro h; rw [h] at hsl; simp at hsl; omega) oQ (by unfold maxLen at h4; omega) (fun j x hx => by
   exact hp.cells (g := b) rfl j _ (by simp [zaf, hx]))
  obtain ⟨fz', hf1, hf2⟩ := zx4 h3 hfz
  refine ⟨(), w.freeze ⟨b, 0, none⟩ n, ?_, ?_⟩
  ·simp only [execOp, resolve, invoke, builtin]
   rw [hsl] at hr
   simp [zau hx, zau hy, hr]
  ·obtain ⟨f1, f2, f3⟩ := zx3 (w := w) (b := b) (n := n)
   refine Hp.call (m := [zq7 e (some (b, c)) n (zaf s.data.toList)]) hw (zoa (o := some (b, c)) ⟨by rw [bK]; exact hlen, .inr ⟨b, c, cur, fz', rfl, aV _, hf1, by rw [bK]; exact hf2, h2, h4, by rw [bK]; exact h5, by rw [bK]; exact h6⟩⟩ ⟨f1, f2, f3, iM zx5.symm, fun k _ hk => zvn fun e => hk ⟨c, by rw [e]⟩⟩ (fun b' c' h => .inr ⟨c', h⟩)) (fun k' _ hk => ⟨_, .head _, hk⟩))
end Go.Eng
namespace Go.Proofs.YtkkfifhaobjicaaGreatDoor
open Go.RowKit Go.Eng
set_option maxRecDepth 100000
set_option maxHeartbeats 40000000
abbrev znx (b : Nat) (p : Option Addr) (o : Option (Nat × Nat)) (n : Nat) : Eng.Item := pt b (.cells #[.pointer p, slV o n] 228 (0, 0))
theorem ziv (b : Nat) (p : Option Addr) (o : Option (Nat × Nat)) (n : Nat) (hp : p = none ∨ p = some ⟨b, 0, none⟩) (w : World) (hw : za1 (znx b p o n) w) :
  Ct Tryz.prog 176 #[.pointer (some ⟨b, 0, none⟩)] w (zan [znx b p o n]) (fun _ : Unit => .tuple #[]) (fun _ => True) (fun _ => [znx b (some ⟨b, 0, none⟩) o n]) := by
 unfold znx at *
 refine zbb [_] [_] Tryz.func176 rfl rfl (by simpa using hw) (.cons (fun _ h => by cases h) .nil) ?_
 simp only [zaa]
 refine goA ?_
 rcases hp with rfl | rfl
 ·refine goA ?_
  refine l_w rfl (qnw rfl rfl rfl rfl (.head _) sQ) ?_
  refine goA ?_
  refine l_w rfl (qrv Tryz.func190 kQ kQ kQ kQ rfl (fun w => Lib.run_noEscape w _)) ?_
  refine goA ?_
  refine l_w rfl (qnp rfl rfl rfl rfl (.head _) kQ) ?_
  refine goA ?_
  refine zaz rfl (zah rfl rfl rfl rfl rfl rfl sQ) fun _ => ?_
  refine goA ?_
  exact zl6 () rfl rfl trivial (.refl _) (by simp [zac])
 ·refine goA ?_
  exact zl6 () rfl rfl trivial (.refl _) (by simp [zac])
theorem zya (b : Nat) (n : Nat) (hn : n ≤ 140737488355328) (w : World) (hw : za1 (znx b (some ⟨b, 0, none⟩) none 0) w) :
  Ct Tryz.prog 177 #[.pointer (some ⟨b, 0, none⟩), .int .i64 n] w (zan [znx b (some ⟨b, 0, none⟩) none 0]) (fun _ : Nat × Nat => .tuple #[]) (fun _ => True) (fun o => [znx b (some ⟨b, 0, none⟩) (some o) 0, own 5 1 (some o) 0 []]) := by
 refine zbb [_, _] [_] Tryz.func177 rfl rfl (by simpa using hw) (.cons (fun _ h => by cases h) .nil) ?_
 simp only [zaa, Nat.reduceAdd]
 unfold znx
 refine goA ?_
 refine zi6 kQ ?_
 refine goE ?_
 refine zaw 8 ⟨kQ, dQ⟩ rfl rfl (qrj (t := 32) (e := 5) rfl Tryz.func191 kQ kQ kQ kQ kQ rfl rfl oQ) (fun _ _ h => goH h) fun ⟨⟨b2, cs⟩, h2, h3⟩ => ?_
 refine goX ?_
 refine zaz rfl (zh4 (cs := []) (cur := cs.toList) rfl rfl rfl rfl rfl sQ (fun _ _ => .inl rfl) (fun _ => rfl) sQ rfl) fun _ => ?_
 rw [qmz]
 refine goA ?_
 refine zaz rfl (zai (zce _ _ _) (zah rfl rfl rfl rfl rfl rfl sQ)) fun _ => ?_
 refine goA ?_
 refine zb3 (fun w hw => ((hw.perm (zce _ _ _)).ownOf (n := 0) (c := cs.size) (sz := 1) (aV _) h3 sQ).perm (zce _ _ _)) ?_
 rw [kM, jQ]
 exact zl6 (b2, cs.size) rfl rfl trivial (.refl _) (by simp [zac, zab])
theorem qcg (b : Nat) (n : Nat) (h0 : 0 < n) (hn : n ≤ 140737488355328) (w : World) (hw : za1 (znx b none none 0) w) :
  Ct Tryz.prog 149 #[.pointer (some ⟨b, 0, none⟩), .int .i64 n] w (zan [znx b none none 0]) (fun _ : Nat × Nat => .tuple #[]) (fun _ => True) (fun o => [znx b (some ⟨b, 0, none⟩) (some o) 0, own 5 1 (some o) 0 []]) := by
 refine zbb [_, _] [_] Tryz.func149 rfl rfl (by simpa using hw) (.cons (fun _ h => by cases h) .nil) ?_
 simp only [zaa, Nat.reduceAdd]
 unfold znx
 refine goA ?_
 refine lCu [znx b none none 0] rfl (by first | (simp [zac, zab, zdn]; done) | (intro it hm; (iterate 6 (all_goals try (rcases hm with _ | ⟨_, hm⟩))) <;> first | exact zad _ | exact zac _ _ _ | exact zab _ _ _ _ _ _)) (fun w1 hw1 hh1 ha1 => ziv b _ none 0 (.inl rfl) w1 (hh1 _ (.head _))) fun ⟨x, hx⟩ => ?_
 unfold znx
 refine goA ?_
 refine goY ?_
 refine goA ?_
 refine lCu [znx b (some ⟨b, 0, none⟩) none 0] rfl (by first | (simp [zac, zab, zdn]; done) | (intro it hm; (iterate 6 (all_goals try (rcases hm with _ | ⟨_, hm⟩))) <;> first | exact zad _ | exact zac _ _ _ | exact zab _ _ _ _ _ _)) (fun w1 hw1 hh1 ha1 => zya b n hn w1 (hh1 _ (.head _))) fun ⟨x, hx⟩ => ?_
 refine goA ?_
 exact zl6 x rfl rfl trivial (.refl _) (by simp [zac, zab])
abbrev blS (b : Nat) (p : Option Addr) (o : Option (Nat × Nat)) (s : Bys) : List Eng.Item := [znx b p o s.length, zq7 5 o s.length (zaf s)]
theorem ziu (b : Nat) (p : Option Addr) (hp : p = none ∨ p = some ⟨b, 0, none⟩) (o : Option (Nat × Nat)) (t s : Bys) (hn : t.length + s.length ≤ 140737488355328) (w : World) (hw : ∀ it ∈ blS b p o t, za1 it w) (ha : (blS b p o t).Pairwise Eng.Item.Apart) :
  Ct Tryz.prog 150 #[.pointer (some ⟨b, 0, none⟩), .string ⟨s.toArray⟩] w (zan (blS b p o t)) (fun _ : Option (Nat × Nat) => .tuple #[.int .i64 s.length, .nilIface]) (fun _ => True) (fun o' => blS b (some ⟨b, 0, none⟩) o' (t ++ s)) := by
 refine zbb [_, _] _ Tryz.func150 rfl rfl hw ha ?_
 simp only [zaa, Nat.reduceAdd]
 have hsl := bal s
 unfold blS znx
 refine goA ?_
 refine lCu [znx b p o t.length] rfl (by first | (simp [zac, zab, zdn]; done) | (intro it hm; (iterate 6 (all_goals try (rcases hm with _ | ⟨_, hm⟩))) <;> first | exact zad _ | exact zac _ _ _ | exact zab _ _ _ _ _ _)) (fun w1 hw1 hh1 ha1 => ziv b p o t.length hp w1 (hh1 _ (.head _))) fun ⟨x, hx⟩ => ?_
 unfold znx
 refine goA ?_
 refine zaz rfl (zai (zce _ _ _) (qf7 rfl rfl rfl rfl rfl rfl (by rw [hsl]; exact hn))) fun o' => ?_
 refine goA ?_
 refine zaz rfl (zai (zce _ _ _) (zah rfl rfl rfl rfl (zc5 _ _) (zdj _ _) sQ)) fun _ => ?_
 refine goA ?_
 have e1 : t.length + (⟨s.toArray⟩ : ByteArray).size = (t ++ s).length := by rw [hsl, aA]
 have e2 : zaf t ++ zaf (⟨s.toArray⟩ : ByteArray).data.toList = zaf (t ++ s) := by rw [zjk]
 rw [e1, e2]
 exact zdq o' rfl rfl rfl (by rw [hsl]) trivial (.refl _) (by simp [zac, zbd])
theorem qgk {w : World} {e : TypeId} {o : Option (Nat × Nat)} {s : Bys} (h : (zq7 e o s.length (zaf s)).prop w) (h0 : s ≠ []) : ∃ b c, o = some (b, c) ∧ s.length ≤ c := by
 rcases h.2 with ⟨h1, h2⟩ | ⟨b, c, cur, fz, hv, -, -, -, h2, -⟩
 ·exact absurd (bM h2) h0
 ·match o, hv with
  | none, hv => cases hv
  | some (b', c'), hv => cases hv; exact ⟨_, _, rfl, h2⟩
theorem zhx (b : Nat) (p : Option Addr) (o : Option (Nat × Nat)) (s : Bys) (h0 : s ≠ []) (w : World) (hw : ∀ it ∈ blS b p o s, za1 it w) (ha : (blS b p o s).Pairwise Eng.Item.Apart) :
  Ct Tryz.prog 152 #[.pointer (some ⟨b, 0, none⟩)] w (zan (blS b p o s)) (fun _ : Unit => .string ⟨s.toArray⟩) (fun _ => True) (fun _ => blS b p o s) := by
 obtain ⟨ob, oc, rfl, hoc⟩ := qgk (hw _ (.tail _ (.head _))).1 h0
 refine zbb [_] _ Tryz.func152 rfl rfl hw ha ?_
 simp only [zaa]
 have hsl := bal s
 have hlp : 0 < s.length := by cases s with | nil => exact absurd rfl h0 | cons a l => simp
 unfold blS znx
 refine goA ?_
 refine zsp (zce _ _ _) (qm8 kQ ?_)
 refine goE ?_
 refine zaw 4 ⟨kQ, dQ⟩ rfl rfl (qf9 rfl (qr0 rfl oQ)) (fun _ _ h => goH h) fun _ => ?_
 refine goE ?_
 refine zaw 10 ⟨kQ, dQ⟩ rfl rfl (qms (s := ⟨s.toArray⟩) rfl rfl rfl rfl kQ hlp hsl.symm) (fun _ _ h => goH h) fun _ => ?_
 refine goX ?_
 refine zec [1, 0] rfl rfl ?_
 exact zbs () rfl rfl rfl trivial (.refl _) (by simp [zac, zbd])
theorem zjj (b : Nat) (p : Option Addr) (o : Option (Nat × Nat)) (s : Bys) (w : World) (hw : ∀ it ∈ blS b p o s, za1 it w) :
  Pu Tryz.prog 151 #[.pointer (some ⟨b, 0, none⟩)] w (.int .i64 s.length) := by
 refine zbh [_] Tryz.func151 rfl rfl ?_
 simp only [zaa]
 have hvv : ∃ a c, slV o s.length = .slice a s.length c := by
  rcases (hw _ (.tail _ (.head _))).1.2 with ⟨h1, h2⟩ | ⟨b, c, cur, fz, hv, -⟩
  ·rw [h1, h2]; exact ⟨_, _, rfl⟩
  ·exact ⟨_, _, hv⟩
 obtain ⟨va, vc, hv⟩ := hvv
 refine goA ?_
 refine l_w rfl (zay (v := slV o s.length) rfl rfl (fun w' hw' => zdv (i := 1) (((hw _ (.head _)).keep hw').1) rfl)) ?_
 rw [hv]
 refine goA ?_
 exact zcz rfl rfl rfl
theorem zu2 (b : Nat) (p : Option Addr) (o : Option (Nat × Nat)) (s : Bys) (w : World) (hw : ∀ it ∈ blS b p o s, za1 it w) (ha : (blS b p o s).Pairwise Eng.Item.Apart) :
  Ct Tryz.prog 163 #[.pointer (some ⟨b, 0, none⟩)] w (zan (blS b p o s)) (fun _ : Unit => .tuple #[]) (fun _ => True) (fun _ => blS b none none []) := by
 refine zbb [_] _ Tryz.func163 rfl rfl hw ha ?_
 simp only [zaa]
 unfold blS znx
 refine goA ?_
 refine zaz rfl (zah rfl rfl rfl rfl rfl rfl sQ) fun _ => ?_
 refine goA ?_
 refine zaz rfl (zah rfl rfl rfl rfl rfl rfl sQ) fun _ => ?_
 refine goA ?_
 refine zb3 (m' := blS b none none []) (fun w' hw' => ?_) (zl6 () rfl rfl trivial (.refl _) (by simp [zac, zbd]))
 have h1 : Hp w _ [znx b none none ([] : Bys).length] w' := hw'.sub (.cons_cons _ (.cons _ (.refl _)))
 have h2 : Hp w _ [own 5 1 none 0 [], znx b none none ([] : Bys).length] w' := zd6 _ _ h1
 have h3 : Hp w _ [zq7 5 none 0 [], znx b none none ([] : Bys).length] w' := h2.imp (fun k h => h) (fun h => zob h) (zbd _ _ _ _ _)
 exact h3.perm (zce _ _ _)
end Go.Proofs.YtkkfifhaobjicaaGreatDoor
namespace Go.Eng
open Go.RowKit
theorem Hp.here {w0 w : World} {F : Nat → Prop} {pre m : List Item} (h : Hp w0 F (pre ++ m) w) (hs : ∀ it ∈ pre, it.Stable none') : ∀ it ∈ pre, za1 it w := fun it hm => za1.of (h.item it (aK _ hm)) (hs it hm)
theorem qqb {P : Program} {l : zaq} {H : World → Prop} {T : Array TypeId} {ty : TypeId} {x y z : Operand} {k : IntKind} {a b c : Int} {i j q : Nat} [h : NatOf a i] [h' : NatOf b j] [h'' : NatOf c q] (hx : evO l x = some (.int k a)) (hy : evO l y = some (.int k b)) (hz : evO l z = some (.int k c)) : OV P (.call ⟨.builtin .min, #[x, y, z], T⟩) ty l H (.int k (min (min i j) q : Nat)) := ov fun _ _ _ w _ => by
 obtain rfl := h.eq; obtain rfl := h'.eq; obtain rfl := h''.eq
 simp only [execOp, resolve, invoke, builtin]
 simp only [zau hx, zau hy, zau hz, Array.map, List.map]
 have h1 : (Builtin.min_ T ty #[.int k (i : Int), .int k (j : Int), .int k (q : Int)]).run P w = .ok (.int k ((min (min i j) q : Nat) : Int)) w := by
  simp only [Builtin.min_, List.foldlM, Builtin.min2]
  by_cases h1 : (j : Int) < i
  ·by_cases h2 : (q : Int) < j
   ·simp [h1, h2]; omega
   ·simp [h1, h2]; omega
  ·by_cases h2 : (q : Int) < i
   ·simp [h1, h2]; omega
   ·simp [h1, h2]; omega
 simp [zau hx, zau hy, zau hz, h1]
end Go.Eng
namespace Go.Proofs.YtkkfifhaobjicaaGreatDoor
open Go.RowKit Go.Eng
set_option maxRecDepth 100000
set_option maxHeartbeats 40000000
theorem qol (x : Nat) (h : x < 4294967296) : x &&& 4294967295 = x := by
 rw [show (4294967295 : Nat) = 2 ^ 32 - 1 from rfl, eJ]
 exact aY h
theorem zyr (n : Nat) (hn : n < 65536) (w : World) : Pu Tryz.prog 174 #[.int .u64 1, .int .u64 n] w (.tuple #[.int .u64 0, .int .u64 n]) := by
 refine zbh [_, _] Tryz.func174 rfl rfl ?_
 simp only [zaa, Nat.reduceAdd]
 have h1 := qol 1 dQ
 have h2 := qol n oQ
 have h3 : n / 2 ^ 32 = 0 := iU oQ
 have e1 : 1 / 2 ^ 32 * (n &&& 4294967295) + 1 * (n &&& 4294967295) / 2 ^ 32 = 0 := by
  rw [h2, jZ, h3]
  omega
 refine goA ?_
 rw [h1]
 refine goA ?_
 rw [e1, Nat.zero_and]
 refine goA ?_
 rw [h3]
 refine goA ?_
 refine zhm rfl rfl rfl ?_
 simp
theorem ztz (n : Nat) (hn : n < 65536) (w : World) : Pu Tryz.prog 147 #[.int .u64 1, .int .u64 n] w (.tuple #[.int .u64 0, .int .u64 n]) := by
 refine zbh [_, _] Tryz.func147 rfl rfl ?_
 simp only [zaa, Nat.reduceAdd]
 refine goA ?_
 refine lPu rfl (fun w1 hw1 => zyr n hn w1) ?_
 refine goA ?_
 exact zhm rfl rfl rfl rfl
theorem zi4 (n : Nat) (hn : n ≤ 8192) (w : World) : Pu Tryz.prog 109 #[.string ⟨#[0]⟩, .int .i64 n] w (.string ⟨(List.replicate n (0 : UInt8)).toArray⟩) := by
 refine zbh [_, _] Tryz.func109 rfl rfl ?_
 simp only [zaa, Nat.reduceAdd]
 refine goA ?_
 by_cases h0 : n = 0
 ·subst h0
  refine goA ?_
  exact zcz rfl rfl rfl
 by_cases h1 : n = 1
 ·subst h1
  refine goA ?_
  exact zcz rfl rfl rfl
 have hs : (⟨#[0]⟩ : ByteArray).size = 1 := rfl
 refine goA ?_
 rw [hs]
 refine lPu rfl (fun w1 hw1 => ztz n oQ w1) ?_
 refine goA ?_
 have hz : ∀ h, ((⟨#[0]⟩ : ByteArray)[0]'h).toNat = 0 := fun _ => rfl
 simp only [hz]
 refine goA ?_
 refine zal rfl rfl fun b9 hb9 => ?_
 refine goA ?_
 refine lCu [znx b9 none none 0] rfl (by first | (simp [zac, zab, zdn]; done) | (intro it hm; (iterate 6 (all_goals try (rcases hm with _ | ⟨_, hm⟩))) <;> first | exact zad _ | exact zac _ _ _ | exact zab _ _ _ _ _ _)) (fun w1 hw1 hh1 ha1 => qcg b9 n oQ oQ w1 (hh1 _ (.head _))) fun ⟨x, hx⟩ => ?_
 obtain ⟨o0, ho0⟩ : ∃ o : Option (Nat × Nat), some x = o := ⟨_, rfl⟩
 rw [ho0]
 refine zez (m' := blS b9 (some ⟨b9, 0, none⟩) o0 []) (fun w' hw' => (Hp.imp (it' := zq7 5 o0 0 []) (hw'.perm (zce _ _ _)) (fun k h => h) (fun h => zob h) (zbd _ _ _ _ _)).perm (zce _ _ _)) ?_
 refine goA ?_
 refine lCu (blS b9 (some ⟨b9, 0, none⟩) o0 []) rfl (by simp [zac, zbd]) (fun w1 hw1 hh1 ha1 => ziu b9 _ (.inr rfl) o0 [] [0] sQ w1 hh1 ha1) fun ⟨x, hx⟩ => ?_
 refine goA ?_
 refine zcp (α := Nat × Option (Nat × Nat)) (fun y => [(7, .int .i64 n), (8, .int .i64 n), (9, .pointer (some ⟨b9, 0, none⟩))]) (fun y => 1 ≤ y.1 ∧ y.1 ≤ n)
  (fun y => blS b9 (some ⟨b9, 0, none⟩) y.2 (List.replicate y.1 0)) (fun y => n - y.1) (1, x) ⟨rfl, rfl, rfl, trivial⟩ ⟨aX _, by simp only; omega⟩ (fun w' hw' => hw') fun ⟨j, o⟩ ⟨h2, h3⟩ => ?_
 simp only at h2 h3 ⊢
 have hne : List.replicate j (0 : UInt8) ≠ [] := fun e => by have := congrArg List.length e; simp at this; omega
 have hlr : (List.replicate j (0 : UInt8)).length = j := bV ..
 have hbr := bal (List.replicate j (0 : UInt8))
 rw [hlr] at hbr
 by_cases hj : j < n
 ·refine goA ?_
  refine lPu rfl (fun w1 hw1 => zjj b9 _ o _ w1 (hw1.here (m := []) (by simp [zac, zbd]))) ?_
  rw [hlr]
  refine goA ?_
  refine lPu rfl (fun w1 hw1 => zjj b9 _ o _ w1 (hw1.here (m := []) (by simp [zac, zbd]))) ?_
  rw [hlr]
  refine goA ?_
  refine lPu rfl (fun w1 hw1 => zjj b9 _ o _ w1 (hw1.here (m := []) (by simp [zac, zbd]))) ?_
  rw [hlr]
  refine goA ?_
  refine l_w rfl (qqb rfl rfl rfl) ?_
  refine goA ?_
  refine lCu (blS b9 (some ⟨b9, 0, none⟩) o (List.replicate j 0)) rfl (by simp [zac, zbd]) (fun w1 hw1 hh1 ha1 => zhx b9 _ o _ hne w1 hh1 ha1) fun ⟨x, hx⟩ => ?_
  refine goA ?_
  generalize hc : min (min (n - j) j) n = c
  have hex : (⟨(List.replicate j (0 : UInt8)).toArray⟩ : ByteArray).extract 0 c = ⟨(List.replicate c (0 : UInt8)).toArray⟩ := qef (by
   rw [ByteArray.data_extract]
   simp [List.extract_eq_take_drop, List.take_replicate]
   omega)
  rw [hex]
  refine lCu (blS b9 (some ⟨b9, 0, none⟩) o (List.replicate j 0)) rfl (by simp [zac, zbd]) (fun w1 hw1 hh1 ha1 => ziu b9 _ (.inr rfl) o _ (List.replicate c 0) (by simp; omega) w1 hh1 ha1) fun ⟨o', hx⟩ => ?_
  rw [iQ]
  refine goA ?_
  exact zav (j + c, o') ⟨rfl, rfl, rfl, trivial⟩ ⟨by simp only; omega, by simp only; omega⟩ (fun w' hw' => hw') (by simp only; omega)
 ·obtain rfl : j = n := oQ
  refine goA ?_
  refine lPu rfl (fun w1 hw1 => zjj b9 _ o _ w1 (hw1.here (m := []) (by simp [zac, zbd]))) ?_
  rw [hlr]
  refine goA ?_
  refine lCu (blS b9 (some ⟨b9, 0, none⟩) o (List.replicate j 0)) rfl (by simp [zac, zbd]) (fun w1 hw1 hh1 ha1 => zhx b9 _ o _ hne w1 hh1 ha1) fun ⟨x, hx⟩ => ?_
  refine goA ?_
  exact zcz rfl rfl rfl
end Go.Proofs.YtkkfifhaobjicaaGreatDoor
namespace Go.Eng
open Go.RowKit
set_option maxRecDepth 100000
variable {P : Program} {Q : Exit → Act → World → Prop} {N : Fm} {l : zaq} {H : World → Prop} {ops : Array Oper} {rest : List Oper} {w0 : World} {F : Nat → Prop} {m m' : List Item} {ty : TypeId} {pos : String} {after : Array Edge} {g : Option (Nat × Bool)} {d : Nat}
section look
variable {x y z : Operand} {T k e : TypeId} {b : Nat} {A : List (List UInt8 × Value)} {h : List UInt8} {zv v : Value}
end look
end Go.Eng
namespace Go.Proofs.YtkkfifhaobjicaaGreatDoor
open Go.RowKit Go.Eng
set_option maxRecDepth 100000
set_option maxHeartbeats 40000000
theorem zos (a : Option Addr) (n c : Nat) (bs : List UInt8) (hn : bs.length = n) (hz : n ≤ 1000000000) (w : World) (hr : Rd w a (zaf bs)) :
  Ct Tryz.prog 123 #[.slice a n c] w none' (fun o : Option (Nat × Nat) => slV o n) (fun _ => True) (fun o => [own 5 1 o n (zaf bs)]) := by
 refine zfv [_] Tryz.func123 rfl rfl ?_
 simp only [zaa]
 refine goA ?_
 refine l_w rfl (qqa rfl rfl rfl) ?_
 cases a with
 | none =>
  have hz : bs = [] := by
   rcases hr with h | ⟨b, off, h, -⟩
   ·cases bs with | nil => rfl | cons x r => simp [zaf] at h
   ·cases h
  subst hz
  subst hn
  refine goA ?_
  refine zb3 (fun w hw => zd6 5 1 hw) ?_
  exact zbs none rfl rfl rfl trivial (.cons_cons _ (aD _)) (by simp [zab])
 | some a =>
  refine goA ?_
  refine zaz rfl (qji (e := 5) (sz := 1) rfl rfl rfl) fun ⟨b, hb⟩ => ?_
  refine goA ?_
  refine zaz rfl (zdh (o := some (b, 0)) (n := 0) (news := zaf bs) rfl rfl rfl rfl rfl rfl (by rw [zap, hn, bK]) (zeo _) oQ (fun w' hw' j v hj => ?_)) fun o => ?_
  ·rcases hr with h | ⟨b2, off, h, h2⟩
   ·rw [h] at hj; simp at hj
   ·cases h
    rw [zc9]
    exact hw'.old (fun h => h) (h2 j v hj)
  rw [aF, aI]
  refine goA ?_
  exact zbs o rfl rfl rfl trivial (.cons_cons _ (aD _)) (by simp [zab])
abbrev pks (b : Nat) (o : Option (Nat × Nat)) (xs : List UInt8) : List Eng.Item := [own 5 1 o xs.length (zaf xs), pt b (.cells #[slV o xs.length, .int .i64 0] 191 (0, 0))]
theorem zlh (w : World) : Ct Tryz.prog 79 #[] w none' (fun b : Nat => .pointer (some ⟨b, 0, none⟩)) (fun _ => True) (fun b => pks b none []) := by
 refine zfv [] Tryz.func79 rfl rfl ?_
 simp only [zaa]
 refine goA ?_
 refine zbt rfl rfl fun b hb => ?_
 refine goA ?_
 refine zb3 (fun w hw => zd6 5 1 hw) ?_
 exact zbs b rfl rfl rfl trivial (.refl _) (by simp [zab, zac])
theorem zj0 (n : Nat) (h : n = 1 ∨ n = 2 ∨ n = 4 ∨ n = 8) (w : World) : Pu Tryz.prog 120 #[.int .i64 n] w (.bool true) := by
 refine zbh [_] Tryz.func120 rfl rfl ?_
 simp only [zaa]
 rcases h with rfl | rfl | rfl | rfl
 all_goals
  refine goA ?_
  exact zcz rfl rfl rfl
theorem zjt {α : Type} (b : Nat) (o : Option (Nat × Nat)) (xs bs : List UInt8) (f : FuncId) (cs : List Value) (ad : α → Addr) (cp : α → Nat) (it : α → Eng.Item) (hst : ∀ x, (it x).Stable none') (hf : zbu Tryz.prog f = true) (hz : xs.length + bs.length ≤ 1000000000) (w : World)
  (hw : ∀ it ∈ pks b o xs, za1 it w) (ha : (pks b o xs).Pairwise Eng.Item.Apart)
  (hmk : ∀ w1, Hp w (zan (pks b o xs)) (pks b o xs) w1 → Ct Tryz.prog f cs.toArray w1 none' (fun x : α => .slice (some (ad x)) bs.length (cp x)) (fun _ => True) (fun x => [it x]))
  (hrd : ∀ x w1, (it x).prop w1 → Fr (zan (pks b o xs)) w w1 → ∀ (j : Nat) (u : Value), (zaf bs)[j]? = some u → w1.cell? ((ad x).add j) = some u) :
  Ct Tryz.prog 119 #[.pointer (some ⟨b, 0, none⟩), .bool true, .func (.func f) #[] cs.toArray] w (zan (pks b o xs)) (fun _ : Option (Nat × Nat) => .pointer (some ⟨b, 0, none⟩)) (fun _ => True) (fun o' => pks b o' (xs ++ bs)) := by
 refine zbb [_, _, _] _ Tryz.func119 rfl rfl hw ha ?_
 simp only [zaa, Nat.reduceAdd]
 refine goA ?_
 refine zao [1] 10 rfl rfl kQ ?_
 refine goE ?_
 refine zaw 6 ⟨kQ, dQ⟩ rfl rfl (qri (fs := []) (cs := cs) rfl hf rfl rfl rfl (fun w1 hw1 => hmk w1 hw1)) (fun _ _ h => goH h) fun ⟨x, hx⟩ => ?_
 refine goE ?_
 refine zaw 7 ⟨kQ, dQ⟩ rfl rfl (zai (zce _ _ _) (zdh (news := zaf bs) rfl rfl rfl rfl rfl rfl (by rw [zap, bK]) (zeo _) oQ (fun w' hw' j v hj => hrd x w' (hw'.item (it x) sQ).1 hw'.fr j v hj))) (fun _ _ h => goH h) fun o' => ?_
 refine goE ?_
 refine zdm ⟨kQ, kQ⟩ rfl rfl (zai (zda _ _ _ _) (zah rfl rfl rfl rfl (zc5 _ _) (zdj _ _) sQ)) fun _ => ?_
 rw [← zjk, ← aA]
 refine goA ?_
 refine zec [1, 0] rfl rfl ?_
 exact zbs o' rfl rfl rfl trivial (.refl _) (by simp [zab, zac])
theorem zr5 {w0 w : World} {F : Nat → Prop} {pre m : List Eng.Item} (hw : Hp w0 F (pre ++ m) w) {b : Nat} {o : Obj} (hm : pt b o ∈ m) : ¬ zan pre b := fun ⟨it, h1, h2⟩ => (bP.1 hw.apart).2.2 it h1 _ hm b h2 rfl
/-! ### Text -/
theorem zzj (bx : Nat) (s : ByteArray) (w : World) (hc : w.cell? ⟨bx, 0, none⟩ = some (.string s)) :
  Ct Tryz.prog 122 #[.pointer (some ⟨bx, 0, none⟩)] w none' (fun p : Nat × Nat => .slice (some ⟨p.1, 0, none⟩) s.data.toList.length p.2) (fun _ => True) (fun p => [zp9 5 s.data.toList p.1 p.2]) := by
 refine zfv [_] Tryz.func122 rfl rfl ?_
 simp only [zaa]
 refine goA ?_
 refine l_w rfl (ze2 rfl rfl (fun h => h) hc) ?_
 refine zaz rfl (qas rfl rfl rfl rfl) fun ⟨p, h1, h2⟩ => ?_
 refine goA ?_
 rw [zom]
 exact zbs p rfl rfl rfl trivial (.cons_cons _ (aD _)) (by simp [zac])
theorem zgm (b : Nat) (o : Option (Nat × Nat)) (xs : List UInt8) (s : ByteArray) (hz : xs.length + s.size ≤ 1000000000) (w : World) (hw : ∀ it ∈ pks b o xs, za1 it w) (ha : (pks b o xs).Pairwise Eng.Item.Apart) :
  Ct Tryz.prog 81 #[.pointer (some ⟨b, 0, none⟩), .string s] w (zan (pks b o xs)) (fun _ : Option (Nat × Nat) => .pointer (some ⟨b, 0, none⟩)) (fun _ => True) (fun o' => pks b o' (xs ++ s.data.toList)) := by
 refine zbb [_, _] _ Tryz.func81 rfl rfl hw ha ?_
 simp only [zaa, Nat.reduceAdd]
 refine goA ?_
 refine zd3 rfl rfl rfl fun bx hbx => ?_
 refine goA ?_
 refine l_w rfl (zn5 rfl) ?_
 refine zj8 (zda _ _ _ _) ?_
 refine zj8 (zda _ _ _ _) ?_
 refine lCu [own _ _ _ _ _, pt b _] rfl (by first | (simp [zac, zab, zdn]; done) | (intro it hm; (iterate 6 (all_goals try (rcases hm with _ | ⟨_, hm⟩))) <;> first | exact zad _ | exact zac _ _ _ | exact zab _ _ _ _ _ _)) (fun w1 hw1 hh1 ha1 => zjt b o xs s.data.toList 122 [.pointer (some ⟨bx, 0, none⟩)] (fun p : Nat × Nat => ⟨p.1, 0, none⟩) (fun p => p.2) (fun p => zp9 5 s.data.toList p.1 p.2) (fun p => zac _ _ _) kQ (by rw [zom]; exact hz) w1 hh1 ha1 (fun w2 hw2 => zzj bx s w2 (hw2.old (zr5 hw1 (.head _)) (zdv (hw1.get (.tail _ (.tail _ (.head _)))) rfl))) (fun p w2 hp _ j v hj => by rw [zc9, aF]; have := zlw hp j v hj; rwa [aF] at this)) fun ⟨x, hx⟩ => ?_
 refine goA ?_
 exact zbs x rfl rfl rfl trivial (.cons_cons _ (.cons_cons _ (aD _))) (by simp [zab, zac])
/-! ### Hash -/
theorem qkp : ∀ (w n k : Nat), k < w → (beN w n)[k]? = some (UInt8.ofNat (n / 256 ^ (w - 1 - k)))
 | 0, _, _, h => oQ
 | w + 1, n, k, h => by
  rw [beN]
  by_cases hk : k < w
  ·rw [cE (by rw [zam]; exact hk), qkp w (n / 256) k hk, Nat.div_div_eq_div_mul, show w + 1 - 1 - k = (w - 1 - k) + 1 by omega, gL, Nat.mul_comm]
  ·obtain rfl : k = w := oQ
   rw [dM (by rw [zam]; omega), zam, show k + 1 - 1 - k = 0 by omega, Nat.sub_self]
   simp
theorem qid {w n k : Nat} (h : k < w) : (beN w n).take (k + 1) = (beN w n).take k ++ [UInt8.ofNat (n / 256 ^ (w - 1 - k))] := by
 rw [eY, qkp w n k h]; rfl
theorem qk6 (j : Nat) : 2 ^ (8 * j) = 256 ^ j := by rw [Nat.pow_mul]
theorem zsb (b4 b5 wd n : Nat) (h : 1 ≤ wd ∧ wd ≤ 8) (w : World) (h4 : w.cell? ⟨b4, 0, none⟩ = some (.int .i64 wd)) (h5 : w.cell? ⟨b5, 0, none⟩ = some (.int .u64 n)) :
  Ct Tryz.prog 121 #[.pointer (some ⟨b4, 0, none⟩), .pointer (some ⟨b5, 0, none⟩)] w none' (fun p : Nat × Nat => .slice (some ⟨p.1, 0, none⟩) wd p.2) (fun _ => True) (fun p => [own 5 1 (some p) wd (zaf (beN wd n))]) := by
 refine zfv [_, _] Tryz.func121 rfl rfl ?_
 simp only [zaa, Nat.reduceAdd]
 refine goA ?_
 refine l_w rfl (ze2 rfl rfl (fun h => h) h4) ?_
 refine goA ?_
 refine zcp (α := Nat × Option (Nat × Nat)) (fun y => [(0, .pointer (some ⟨b4, 0, none⟩)), (1, .pointer (some ⟨b5, 0, none⟩)), (3, slV y.2 y.1), (4, .int .i64 ((wd : Int) - 1 - y.1))]) (fun y => y.1 ≤ wd) (fun y => [own 5 1 y.2 y.1 (zaf ((beN wd n).take y.1))]) (fun y => wd - y.1) (0, none) ⟨rfl, rfl, rfl, by show some (Value.int .i64 (((wd - 1 : Nat) : Int))) = some (Value.int .i64 ((wd : Int) - 1 - (0 : Nat))); congr 2; omega, trivial⟩ (aV _) (fun w' hw' => zd6 5 1 hw') fun ⟨k, o⟩ hk => ?_
 simp only at hk ⊢
 by_cases hk2 : k < wd
 ·obtain ⟨j, hj⟩ : ∃ j : Nat, (wd : Int) - 1 - k = j := ⟨wd - 1 - k, oQ⟩
  rw [hj]
  have hjw : wd - 1 - k = j := oQ
  have hj8 : j ≤ 7 := oQ
  refine goA ?_
  refine l_w rfl (ze2 rfl rfl (fun h => h) h5) ?_
  refine goA ?_
  refine l_w rfl (qkb rfl rfl rfl) ?_
  have hb : (Value.int .u8 ((n / 2 ^ (8 * j) % 256 : Nat) : Int)) = .int .u8 ((UInt8.ofNat (n / 256 ^ j)).toNat : Int) := by rw [qk6]; simp
  rw [hb]
  refine zaz rfl (zba rfl rfl rfl rfl rfl rfl) fun ⟨bq, hbq⟩ => ?_
  refine goA ?_
  refine zaz rfl (zai (zce _ _ _) (zdh (news := zaf [UInt8.ofNat (n / 256 ^ j)]) rfl rfl rfl rfl rfl rfl rfl rfl oQ (fun w' hw' i v hi => by rw [zc9, aF]; exact zbm (hw'.item _ (.tail _ (.head _))).1 i v hi))) fun o' => ?_
  refine goA ?_
  refine l_w rfl (zsx rfl rfl oQ) ?_
  refine goA ?_
  refine zav (k + 1, o') ⟨rfl, rfl, rfl, by show some (Value.int .i64 ((j : Int) - 1)) = some (Value.int .i64 ((wd : Int) - 1 - ((k + 1 : Nat) : Int))); congr 2; omega, trivial⟩ hk2 (fun w' hw' => ?_) (by simp only; omega)
  rw [qid hk2, hjw, zjk]
  exact hw'.sub (.cons_cons _ (aD _))
 ·obtain rfl : k = wd := oQ
  refine goA ?_
  have ht : (beN k n).take k = beN k n := cA (by rw [zam]; exact aX _)
  rw [ht]
  match o with
  | none => exact qhy (fun w hw => show False by have h1 : k = 0 := (hw.item _ (.head _)).1.2; omega) fun h => h.elim
  | some o => exact zbs o rfl rfl rfl trivial (.refl _) (by simp [zab])
theorem zd9 (b : Nat) (o : Option (Nat × Nat)) (xs : List UInt8) (wd n : Nat) (hd : wd = 1 ∨ wd = 2 ∨ wd = 4) (hn : n < 256 ^ wd) (hz : xs.length ≤ 900000000) (w : World) (hw : ∀ it ∈ pks b o xs, za1 it w) (ha : (pks b o xs).Pairwise Eng.Item.Apart) :
  Ct Tryz.prog 80 #[.pointer (some ⟨b, 0, none⟩), .int .i64 wd, .int .u64 n] w (zan (pks b o xs)) (fun _ : Option (Nat × Nat) => .pointer (some ⟨b, 0, none⟩)) (fun _ => True) (fun o' => pks b o' (xs ++ beN wd n)) := by
 refine zbb [_, _, _] _ Tryz.func80 rfl rfl hw ha ?_
 simp only [zaa, Nat.reduceAdd]
 have hd8 : 1 ≤ wd ∧ wd ≤ 8 := oQ
 have hne : ¬ (wd : Int) = 8 := oQ
 have hsh : n / 2 ^ (8 * min 7 wd) = 0 := by
  rw [show min 7 wd = wd by omega, qk6]
  exact iU hn
 have h7 : 8 * min 7 wd < 64 := oQ
 refine goA ?_
 refine zd3 rfl rfl rfl fun b4 hb4 => ?_
 refine goA ?_
 refine zd3 rfl rfl rfl fun b5 hb5 => ?_
 refine goA ?_
 refine lPu rfl (fun w1 hw1 => zj0 wd oQ w1) ?_
 refine goA ?_
 refine l_w rfl (qrx rfl rfl) ?_
 refine goA ?_
 rw [hsh]
 refine goA ?_
 refine l_w rfl (zn5 rfl) ?_
 refine za0 [2, 3, 1, 0] rfl rfl ?_
 refine lCu [own _ _ _ _ _, pt b _] rfl (by first | (simp [zac, zab, zdn]; done) | (intro it hm; (iterate 6 (all_goals try (rcases hm with _ | ⟨_, hm⟩))) <;> first | exact zad _ | exact zac _ _ _ | exact zab _ _ _ _ _ _)) (fun w1 hw1 hh1 ha1 => zjt b o xs (beN wd n) 121 [.pointer (some ⟨b4, 0, none⟩), .pointer (some ⟨b5, 0, none⟩)] (fun p : Nat × Nat => ⟨p.1, 0, none⟩) (fun p => p.2) (fun p => own 5 1 (some p) wd (zaf (beN wd n))) (fun p => zab _ _ _ _ _ _) kQ (by rw [zam]; omega) w1 hh1 ha1 (fun w2 hw2 => by rw [zam]; exact zsb b4 b5 wd n hd8 w2 (hw2.old (zr5 hw1 (.head _)) (zdv (hw1.get (.tail _ (.tail _ (.head _)))) rfl)) (hw2.old (zr5 hw1 (.tail _ (.head _))) (zdv (hw1.get (.tail _ (.tail _ (.tail _ (.head _))))) rfl))) (fun p w2 hp _ j v hj => by rw [zc9, aF]; exact zbm hp j v hj)) fun ⟨x, hx⟩ => ?_
 refine goA ?_
 exact zbs x rfl rfl rfl trivial (.cons_cons _ (.cons_cons _ (aD _))) (by simp [zab, zac])
/-! ### Name -/
theorem zyt (bx : Nat) (s : ByteArray) (hs : s.size < 256) (w : World) (hc : w.cell? ⟨bx, 0, none⟩ = some (.string s)) :
  Ct Tryz.prog 193 #[.pointer (some ⟨bx, 0, none⟩)] w none' (fun p : Nat × Nat => .slice (some ⟨p.1, 0, none⟩) (1 + s.size) p.2) (fun _ => True) (fun p => [own 5 1 (some p) (1 + s.size) (zaf (beN 1 s.size ++ s.data.toList))]) := by
 refine zfv [_] Tryz.func193 rfl rfl ?_
 simp only [zaa]
 refine goA ?_
 refine l_w rfl (ze2 rfl rfl (fun h => h) hc) ?_
 refine goA ?_
 have hb : (Value.int .u8 (s.size : Int)) = .int .u8 ((UInt8.ofNat s.size).toNat : Int) := by simp; omega
 rw [hb]
 refine zaz rfl (zba rfl rfl rfl rfl rfl rfl) fun ⟨bq, hbq⟩ => ?_
 refine goA ?_
 refine l_w rfl (ze2 rfl rfl (fun h => h) hc) ?_
 refine zaz rfl (qao (o := some (bq, 1)) rfl rfl rfl rfl rfl rfl oQ) fun o' => ?_
 refine goA ?_
 match o' with
 | none => exact qhy (fun w hw => show False by have h1 : 1 + s.size = 0 := (hw.item _ (.head _)).1.2; omega) fun h => h.elim
 | some o =>
  exact zbs o rfl rfl rfl trivial (.refl _) (by simp [zab])
theorem qcu (b : Nat) (o : Option (Nat × Nat)) (xs : List UInt8) (s : ByteArray) (hs : s.size < 256) (hz : xs.length ≤ 900000000) (w : World) (hw : ∀ it ∈ pks b o xs, za1 it w) (ha : (pks b o xs).Pairwise Eng.Item.Apart) :
  Ct Tryz.prog 182 #[.pointer (some ⟨b, 0, none⟩), .string s] w (zan (pks b o xs)) (fun _ : Option (Nat × Nat) => .pointer (some ⟨b, 0, none⟩)) (fun _ => True) (fun o' => pks b o' (xs ++ (beN 1 s.size ++ s.data.toList))) := by
 refine zbb [_, _] _ Tryz.func182 rfl rfl hw ha ?_
 simp only [zaa, Nat.reduceAdd]
 have hl : (beN 1 s.size ++ s.data.toList).length = 1 + s.size := by rw [aA, zam, zom]
 refine goA ?_
 refine zd3 rfl rfl rfl fun bx hbx => ?_
 refine goA ?_
 refine zcr 8 _ (.bool true) rfl (by rw [decide_eq_true]; omega) ?_
 refine l_w rfl (zn5 rfl) ?_
 refine zj8 (zda _ _ _ _) ?_
 refine zj8 (zda _ _ _ _) ?_
 refine lCu [own _ _ _ _ _, pt b _] rfl (by first | (simp [zac, zab, zdn]; done) | (intro it hm; (iterate 6 (all_goals try (rcases hm with _ | ⟨_, hm⟩))) <;> first | exact zad _ | exact zac _ _ _ | exact zab _ _ _ _ _ _)) (fun w1 hw1 hh1 ha1 => zjt b o xs (beN 1 s.size ++ s.data.toList) 193 [.pointer (some ⟨bx, 0, none⟩)] (fun p : Nat × Nat => ⟨p.1, 0, none⟩) (fun p => p.2) (fun p => own 5 1 (some p) (1 + s.size) (zaf (beN 1 s.size ++ s.data.toList))) (fun p => zab _ _ _ _ _ _) kQ (by rw [hl]; omega) w1 hh1 ha1 (fun w2 hw2 => by rw [hl]; exact zyt bx s hs w2 (hw2.old (zr5 hw1 (.head _)) (zdv (hw1.get (.tail _ (.tail _ (.head _)))) rfl))) (fun p w2 hp _ j v hj => by rw [zc9, aF]; exact zbm hp j v hj)) fun ⟨x, hx⟩ => ?_
 refine goA ?_
 exact zbs x rfl rfl rfl trivial (.cons_cons _ (.cons_cons _ (aD _))) (by simp [zab, zac])
/-! ### Bytes -/
theorem zfe (b : Nat) (o : Option (Nat × Nat)) (xs : List UInt8) (hz : xs.length ≤ 900000000) (w : World) (hw : ∀ it ∈ pks b o xs, za1 it w) (ha : (pks b o xs).Pairwise Eng.Item.Apart) :
  Ct Tryz.prog 82 #[.pointer (some ⟨b, 0, none⟩)] w (zan (pks b o xs)) (fun o' : Option (Nat × Nat) => .tuple #[slV o' xs.length, .int .i64 0]) (fun _ => True) (fun o' => own 5 1 o' xs.length (zaf xs) :: pks b o xs) := by
 refine zbb [_] _ Tryz.func82 rfl rfl hw ha ?_
 simp only [zaa]
 refine goA ?_
 refine zd4 (fun w hw => (zas (hw.item (own 5 1 o xs.length (zaf xs)) sQ).1)) fun ⟨hsl, hcap⟩ => ?_
 rw [hsl]
 refine ze7 rfl rfl kQ rfl (fun w1 hw1 => zos (slA o) xs.length (slC o) xs rfl oQ w1 (zbl (hw1.item (own 5 1 o xs.length (zaf xs)) sQ).1)) fun x hx => ?_
 refine goA ?_
 rw [← hsl]
 exact zdq x rfl rfl rfl rfl trivial (.refl _) (by simp [zab, zac])
end Go.Proofs.YtkkfifhaobjicaaGreatDoor
namespace Go.Proofs.YtkkfifhaobjicaaGreatDoor
open Go.Eng
set_option maxRecDepth 100000
end Go.Proofs.YtkkfifhaobjicaaGreatDoor
namespace Go.Proofs.YtkkfifhaobjicaaGreatDoor
open Go.Eng
set_option maxRecDepth 100000
structure qqz where
 name : Bys
 dir : Bool
 hash : Bys
 height : Nat
 size : Nat
def zfc (o : Opn) : Bys × Opn := if o.2 then ([], o) else match o.1 with
 | [] => ([], ([], true))
 | c :: r => if r.length < c.toNat then ([], (c :: r, true)) else (r.take c.toNat, (r.drop c.toNat, false))
def qo2 (h : Bys) : Bys := if h.length = 32 then h else List.replicate 32 0
def qsa (nm : Bys) (d : Bool) (o : Opn) : qqz × Opn := (⟨nm, d, qo2 (opT 32 o).1, (opN 1 (opT 32 o).2).1, (opN 4 (opN 1 (opT 32 o).2).2).1⟩, (opN 4 (opN 1 (opT 32 o).2).2).2)
def qrd (kind : Nat) (o : Opn) : qqz × Opn := if kind = 3 then qsa (zfc (opN 1 o).2).1 (decide ((opN 1 o).1 = 1)) (zfc (opN 1 o).2).2 else qsa [] false o
def kidsF (kind : Nat) : Nat → Opn → List qqz × Opn
 | 0, o => ([], o)
 | n + 1, o => ((qrd kind o).1 :: (kidsF kind n (qrd kind o).2).1, (kidsF kind n (qrd kind o).2).2)
/-! ### lengths -/
end Go.Proofs.YtkkfifhaobjicaaGreatDoor
namespace Go.Proofs.YtkkfifhaobjicaaGreatDoor
open Go.Eng
set_option maxRecDepth 100000
open Classical in
open Classical in
open Classical in
/-! ### The stream that is zes -/
/-! ### Lengths -/
end Go.Proofs.YtkkfifhaobjicaaGreatDoor
