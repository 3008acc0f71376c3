/- Maps keyed by hashes: making one, looking up, putting in, how many there are. -/
import Derived.Test.YtdkonngkbbgcgaaGreatDoorMapk
import Derived.Test.YtdkonngkbbgcgaaGreatDoorRng
namespace Go.Eng
open Go.RowKit
set_option maxRecDepth 100000
variable {P : Program} {Q : Exit → Act → World → Prop} {N : Fm} {l : Slots} {H : World → Prop} {ops : Array Oper} {rest : List Oper} {w0 : World} {F : Nat → Prop} {m m' : List Item} {ty : TypeId} {pos : String} {after : Array Edge} {g : Option (Nat × Bool)} {d : Nat}
/-- The rows of a map in which something was put. -/
def insA (A : List (List UInt8 × Value)) (h : List UInt8) (v : Value) : List (List UInt8 × Value) :=
  if (A.lookup h).isSome then A.map (fun p => if p.1 = h then (h, v) else p) else A ++ [(h, v)]
theorem lookup_mem {A : List (List UInt8 × Value)} {h : List UInt8} : (A.lookup h).isSome = true ↔ h ∈ A.map (·.1) := by
  induction A with
  | nil => simp
  | cons a A ih =>
    obtain ⟨x, y⟩ := a
    by_cases e : h = x
    · subst e; simp [List.lookup]
    · have : (h == x) = false := beq_eq_false_iff_ne.2 e
      simp only [List.lookup, this, ih, List.map_cons, List.mem_cons, e, false_or]
theorem insA_keys (A : List (List UInt8 × Value)) (h : List UInt8) (v : Value) : (insA A h v).map (·.1) = if h ∈ A.map (·.1) then A.map (·.1) else A.map (·.1) ++ [h] := by
  unfold insA
  by_cases hm : h ∈ A.map (·.1)
  · rw [if_pos (lookup_mem.2 hm), if_pos hm, List.map_map]
    refine List.map_congr_left fun p _ => ?_
    simp only [Function.comp]
    split
    · rename_i e; exact e.symm
    · rfl
  · rw [if_neg (fun hs => hm (lookup_mem.1 hs)), if_neg hm, List.map_append]; rfl
theorem insA_lookup (A : List (List UInt8 × Value)) (h : List UInt8) (v : Value) (x : List UInt8) : (insA A h v).lookup x = if x = h then some v else A.lookup x := by
  unfold insA
  split
  · rename_i hs
    have hm := lookup_mem.1 hs
    clear hs
    induction A with
    | nil => simp at hm
    | cons a A ih =>
      obtain ⟨y, u⟩ := a
      by_cases e : y = h
      · subst e
        simp only [List.map_cons, if_true, List.lookup]
        by_cases e2 : x = y
        · subst e2; simp
        · have : (x == y) = false := beq_eq_false_iff_ne.2 e2
          simp only [this, if_neg e2]
          by_cases hm2 : y ∈ A.map (·.1)
          · rw [ih hm2, if_neg e2]
          · congr 1
            conv => rhs; rw [← List.map_id A]
            refine List.map_congr_left fun p hp => ?_
            rw [if_neg (fun e3 => hm2 (List.mem_map.2 ⟨p, hp, e3⟩))]; rfl
      · simp only [List.map_cons, if_neg e, List.lookup]
        have hm2 : h ∈ A.map (·.1) := by
          rcases List.mem_cons.1 hm with h1 | h1
          · exact absurd h1.symm e
          · exact h1
        by_cases e2 : x = y
        · subst e2; simp [e]
        · have : (x == y) = false := beq_eq_false_iff_ne.2 e2
          simp only [this]
          exact ih hm2
  · rename_i hs
    have hn : A.lookup h = none := by
      cases e : A.lookup h with
      | none => rfl
      | some _ => rw [e] at hs; exact absurd rfl hs
    clear hs
    induction A with
    | nil =>
      by_cases e : x = h
      · subst e; simp [List.lookup]
      · have : (x == h) = false := beq_eq_false_iff_ne.2 e
        simp [List.lookup, this, if_neg e]
    | cons a A ih =>
      obtain ⟨y, u⟩ := a
      by_cases e1 : h = y
      · subst e1; simp [List.lookup] at hn
      · have hb : (h == y) = false := beq_eq_false_iff_ne.2 e1
        simp only [List.lookup, hb] at hn
        by_cases e2 : x = y
        · subst e2
          simp only [List.cons_append, List.lookup, BEq.rfl]
          rw [if_neg (fun e => e1 e.symm)]
        · have : (x == y) = false := beq_eq_false_iff_ne.2 e2
          simp only [List.cons_append, List.lookup, this]
          exact ih hn
theorem o_makemap {T : TypeId} (hok : okOp N l (.makeMap T none) d = true) : HO P ⟨some d, .makeMap T none, ty, pos, after, g⟩ Q N l (Hp w0 F m) (α := { b : Nat // w0.heap.size ≤ b }) (fun b => (d, .map (some b.1)) :: l) (fun b => Hp w0 F (mapAt b.1 [] :: m)) :=
  o_mem (val := fun b : { b : Nat // w0.heap.size ≤ b } => .map (some b.1)) hok (fun w hw => by
    refine ⟨⟨w.heap.size, hw.fr.size⟩, w.alloc (.map #[] 0), ?_, (hw.alloc (.map #[] 0)).imp (fun k h => h) (fun h => ⟨.nil, (fun _ h => nomatch h), #[], 0, h, rfl⟩) (mapAt_stable _ _ _)⟩
    simp [execOp, Instr.makeMap, newObj, Sem.run, Sem.run_bind])
theorem v_lenmap {x : Operand} {T k e : TypeId} {b : Nat} {A : List (List UInt8 × Value)} (hx : evO l x = some (.map (some b))) (hT : P.underlying T = some (.map k e)) (hm : mapAt b A ∈ m) : OV P (.call ⟨.builtin .len, #[x], #[T]⟩) ty l (Hp w0 F m) (.int .i64 (A.length : Nat)) := ov fun _ _ _ w hw => by
  obtain ⟨-, -, es, clk, h1, h2⟩ := (hw.item _ hm).1
  have hlen : es.size = A.length := by have := congrArg List.length h2; simpa using this
  have hg : (getObj b).run P w = .ok (.map es clk) w := by simp [getObj, Sem.run, h1]
  simp [execOp, resolve, invoke, builtin, ev_of hx, Builtin.len_, run_underlying hT w, goInt, hg, hlen]
section look
variable {x y z : Operand} {T k e : TypeId} {b : Nat} {A : List (List UInt8 × Value)} {h : List UInt8} {zv v : Value}
theorem look_run (KL : WideMaps.KeyLaw P k) (hkeys : ∀ h : List UInt8, h.length = 32 → ∃ q, keyOf P k (hashV h) = some q) (hT : P.underlying T = some (.map k e)) (hz : (P.info? e).bind (·.zero) = some zv) (hh : h.length = 32) (c : Bool) {w : World} (hp : (mapAt b A).prop w) :
    (Instr.lookup T (.map (some b)) (hashV h) c).run P w = .ok (if c then .tuple #[(A.lookup h).getD zv, .bool (A.lookup h).isSome] else (A.lookup h).getD zv) w := by
  obtain ⟨h1, h2, es, clk, h3, h4⟩ := hp
  have hg : (getObj b).run P w = .ok (.map es clk) w := by simp [getObj, Sem.run, h3]
  obtain ⟨lk, hkey⟩ := hkeys h hh
  have hc := KL.check w es.isEmpty hkey
  have hzr : (zeroValue e).run P w = .ok zv w := by
    cases hq : P.info? e with
    | none => simp [hq] at hz
    | some i =>
      have hz' : i.zero = some zv := by simpa [hq] using hz
      simp [zeroValue, typeInfo, hq, hz']
  simp only [Instr.lookup]
  simp only [Sem.run_bind, run_underlying hT w, Result.andThen_ok, hg]
  simp only [Sem.run_pure, Sem.run_bind, Result.andThen_ok, hc]
  rcases find_rows KL hkeys h1 h2 h4 hh w with ⟨e1, e2⟩ | ⟨j, u, e1, e2, -⟩
  · simp only [e1, Result.andThen_ok, e2, Option.getD_none, Option.isSome_none]
    simp only [Sem.run_bind, hzr, Result.andThen_ok, Sem.run_pure]
  · simp only [e1, Result.andThen_ok, e2, Option.getD_some, Option.isSome_some, Sem.run_pure, Sem.run_bind]
theorem v_lookK (KL : WideMaps.KeyLaw P k) (hkeys : ∀ h : List UInt8, h.length = 32 → ∃ q, keyOf P k (hashV h) = some q) (hx : evO l x = some (.map (some b))) (hy : evO l y = some (hashV h)) (hT : P.underlying T = some (.map k e)) (hz : (P.info? e).bind (·.zero) = some zv) (hh : h.length = 32) (hm : mapAt b A ∈ m) :
    OV P (.lookup T x y true) ty l (Hp w0 F m) (.tuple #[(A.lookup h).getD zv, .bool (A.lookup h).isSome]) := ov fun _ _ _ w hw => by
  have := look_run KL hkeys hT hz hh true (hw.item _ hm).1
  simp only [execOp, ev_of hx, ev_of hy, Sem.run_bind, this]; rfl
theorem v_lookK1 (KL : WideMaps.KeyLaw P k) (hkeys : ∀ h : List UInt8, h.length = 32 → ∃ q, keyOf P k (hashV h) = some q) (hx : evO l x = some (.map (some b))) (hy : evO l y = some (hashV h)) (hT : P.underlying T = some (.map k e)) (hz : (P.info? e).bind (·.zero) = some zv) (hh : h.length = 32) (hm : mapAt b A ∈ m) :
    OV P (.lookup T x y false) ty l (Hp w0 F m) ((A.lookup h).getD zv) := ov fun _ _ _ w hw => by
  have := look_run KL hkeys hT hz hh false (hw.item _ hm).1
  simp only [execOp, ev_of hx, ev_of hy, Sem.run_bind, this]; rfl
theorem mapup_run (KL : WideMaps.KeyLaw P k) (hkeys : ∀ h : List UInt8, h.length = 32 → ∃ q, keyOf P k (hashV h) = some q) (hT : P.underlying T = some (.map k e)) (hh : h.length = 32) {w : World} (hw : Hp w0 F (mapAt b A :: m) w) :
    ∃ w', (Instr.mapUpdate T (.map (some b)) (hashV h) v).run P w = .ok () w' ∧ Hp w0 F (mapAt b (insA A h v) :: m) w' := by
  obtain ⟨h1, h2, es, clk, h3, h4⟩ := (hw.item _ (.head _)).1
  have hg : (getObj b).run P w = .ok (.map es clk) w := by simp [getObj, Sem.run, h3]
  have hlt : b < w.heap.size := (Array.getElem?_eq_some_iff.1 h3).1
  have hset : ∀ o, (setObj b o).run P w = .ok () (w.putObj b o) := fun o => by simp [setObj, Sem.run, h3, World.putObj]
  obtain ⟨lk, hkey⟩ := hkeys h hh
  have hc := KL.check w false hkey
  have hw1 : Hp w0 F (pt b (.map es clk) :: m) w := hw.imp (fun _ h => h) (fun _ => h3) (pt_stable _ _ _)
  have hlen : es.toList.length = A.length := by have := congrArg List.length h4; simpa using this
  have hins : ∀ p ∈ insA A h v, p.1.length = 32 := fun p hp => by
    unfold insA at hp
    split at hp
    · obtain ⟨q, hq, rfl⟩ := List.mem_map.1 hp
      split
      · exact hh
      · exact h2 q hq
    · rcases List.mem_append.1 hp with hp | hp
      · exact h2 p hp
      · rw [List.mem_singleton] at hp; subst hp; exact hh
  have hnd : ((insA A h v).map (·.1)).Nodup := by
    rw [insA_keys]
    split
    · exact h1
    · rename_i hm
      refine List.nodup_append.2 ⟨h1, List.nodup_cons.2 ⟨by simp, .nil⟩, fun a ha c hc e => ?_⟩
      rw [List.mem_singleton] at hc
      subst hc; subst e; exact hm ha
  simp only [Instr.mapUpdate]
  simp only [Sem.run_bind, run_underlying hT w, Result.andThen_ok, hg]
  simp only [Sem.run_pure, Sem.run_bind, Result.andThen_ok, hc]
  rcases find_rows KL hkeys h1 h2 h4 hh w with ⟨e1, e2⟩ | ⟨j, u, e1, e2, e3⟩
  · simp only [e1, Result.andThen_ok, hset]
    refine ⟨_, rfl, (hw1.put _).imp (fun _ h => h) (fun hp => ⟨hnd, hins, _, _, hp, ?_⟩) (mapAt_stable _ _ _)⟩
    have : insA A h v = A ++ [(h, v)] := by unfold insA; rw [if_neg (by rw [e2]; simp)]
    rw [this]
    simp [h4]
  · have hj : j < es.size := by
      have := (List.getElem?_eq_some_iff.1 e3).1
      rw [← hlen] at this; simpa using this
    have hkj : es[j].key = hashV h := by
      have := congrArg (fun l => l[j]?) h4
      simp only [List.getElem?_map, e3, Option.map_some] at this
      have h5 : es.toList[j]? = some es[j] := by simp [hj]
      rw [h5] at this
      simp only [Option.map_some, Option.some.injEq, Prod.mk.injEq] at this
      exact this.1
    have hst : (Instr.keyThatStays (((es[j]?).map (·.key)).getD (hashV h)) (hashV h)).run P w = .ok (hashV h) w := by
      rw [Array.getElem?_eq_getElem hj, Option.map_some, Option.getD_some, hkj]
      exact KL.stays w hkey
    simp only [e1, Result.andThen_ok, Sem.run_bind, hst, hset]
    refine ⟨_, rfl, (hw1.put _).imp (fun _ h => h) (fun hp => ⟨hnd, hins, _, _, hp, ?_⟩) (mapAt_stable _ _ _)⟩
    have : insA A h v = A.map (fun p => if p.1 = h then (h, v) else p) := by unfold insA; rw [if_pos (by rw [e2]; simp)]
    rw [this]
    apply List.ext_getElem?
    intro i
    have hi4 := congrArg (fun l => l[i]?) h4
    simp only [List.getElem?_map] at hi4 ⊢
    rw [Array.getElem?_toList, Array.getElem?_modify]
    by_cases hij : j = i
    · subst hij
      rw [if_pos rfl, e3, Array.getElem?_eq_getElem hj]
      simp
    · rw [if_neg hij, ← Array.getElem?_toList, hi4]
      cases hA : A[i]? with
      | none => rfl
      | some p =>
        simp only [Option.map_some]
        have hne : p.1 ≠ h := fun e => by
          have hi := (List.getElem?_eq_some_iff.1 hA).1
          have hj2 := (List.getElem?_eq_some_iff.1 e3).1
          have h6 : (A.map (·.1))[i]'(by simpa using hi) = (A.map (·.1))[j]'(by simpa using hj2) := by
            simp only [List.getElem_map]
            rw [(List.getElem?_eq_some_iff.1 hA).2, (List.getElem?_eq_some_iff.1 e3).2]
            exact e
          rcases Nat.lt_or_gt_of_ne hij with hlt2 | hlt2
          · exact List.pairwise_iff_getElem.1 h1 j i (by simpa using hj2) (by simpa using hi) hlt2 h6.symm
          · exact List.pairwise_iff_getElem.1 h1 i j (by simpa using hi) (by simpa using hj2) hlt2 h6
        rw [if_neg hne]
theorem o_mapup (KL : WideMaps.KeyLaw P k) (hkeys : ∀ h : List UInt8, h.length = 32 → ∃ q, keyOf P k (hashV h) = some q) (hok : (noSel (.mapUpdate T x y z) && known l (.mapUpdate T x y z)) = true) (hx : evO l x = some (.map (some b))) (hy : evO l y = some (hashV h)) (hz : evO l z = some v) (hT : P.underlying T = some (.map k e)) (hh : h.length = 32) :
    HO P ⟨none, .mapUpdate T x y z, ty, pos, after, g⟩ Q N l (Hp w0 F (mapAt b A :: m)) (α := Unit) (fun _ => l) (fun _ => Hp w0 F (mapAt b (insA A h v) :: m)) :=
  o_skip hok (fun w hw => by
    obtain ⟨w', h1, h2⟩ := mapup_run (v := v) KL hkeys hT hh hw
    refine ⟨(), w', ?_, h2⟩
    simp only [execOp, ev_of hx, ev_of hy, ev_of hz, Sem.run_bind, h1]; rfl)
end look
end Go.Eng
