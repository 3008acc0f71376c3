/- The two steps of an assignment to a map's entry among others: the entry is found or made, then it is stored. -/
/- package pages: Commit, the pages that are kept behind it. -/
import Derived.Test.YtplhamichcnmmaaGreatDoorHc06
import Derived.Test.YtplhamichcnmmaaGreatDoorHc30
namespace Go.Eng
open Go.RowKit
set_option maxRecDepth 100000
section
variable {P : Program} {Q : Exit → Act → World → Prop} {N : Fm} {l : Slots} {w0 : World} {F : Nat → Prop} {m : List Item} {ty : TypeId} {pos : String} {after : Array Edge} {g : Option (Nat × Bool)} {d : Nat} {q : IntKind} {x y z : Operand} {T k e : TypeId} {b : Nat} {A : NRows} {h s : Nat} {zv v : Value}
def mapE (q : IntKind) (b : Nat) (A : NRows) (h s : Nat) : Item := ⟨fun k => k = b, fun w => ∃ es clk, w.heap[b]? = some (.map es clk) ∧ Rows' q A es clk ∧ ∃ e ∈ es.toList, e.key = .int q (h : Int) ∧ e.born = s⟩
theorem mapE_stable (ro : Nat → Prop) (q : IntKind) (b : Nat) (A : NRows) (h s : Nat) : (mapE q b A h s).Stable ro := by
  intro w w' hb hp
  obtain ⟨es, clk, h1, h2⟩ := hp
  exact ⟨es, clk, by rw [hb b (.inr rfl)]; exact h1, h2⟩
theorem mapentry_run (hk : P.underlying k = some (.int q)) (hT : P.underlying T = some (.map k e)) (hz : (P.info? e).bind (·.zero) = some zv) (hh : okN q h) {w : World} (hw : Hp w0 F (mapN q b A :: m) w) :
    ∃ (s : Nat) (w' : World), (Instr.mapEntry T (.map (some b)) (.int q (h : Int))).run P w = .ok (.tuple #[(A.lookup h).getD zv, .int .i64 (s : Int)]) w' ∧ Hp w0 F (mapE q b (insN A h ((A.lookup h).getD zv)) h s :: m) w' := by
  obtain ⟨es, clk, h3, R⟩ := (hw.item _ (.head _)).1
  have h4 := R.rows
  have hg : (getObj b).run P w = .ok (.map es clk) w := by simp [getObj, Sem.run, h3]
  have hset : ∀ o, (setObj b o).run P w = .ok () (w.putObj b o) := fun o => by simp [setObj, Sem.run, h3, World.putObj]
  have hkey := Maps.keyOf_int_mk hk hh
  have hc := (Maps.int_keyed hk).check w false hkey
  have hzr : (zeroValue e).run P w = .ok zv w := by
    cases hq : P.info? e with
    | none => simp [hq] at hz
    | some i =>
      have hz' : i.zero = some zv := by simpa [hq] using hz
      simp [zeroValue, typeInfo, hq, hz']
  have hw1 : Hp w0 F (pt b (.map es clk) :: m) w := hw.imp (fun _ h => h) (fun _ => h3) (pt_stable _ _ _)
  have hlen : es.toList.length = A.length := by have := congrArg List.length h4; simpa using this
  generalize hv0 : (A.lookup h).getD zv = v
  have hins : ∀ p ∈ insN A h v, okN q p.1 := fun p hp => by
    unfold insN at hp
    split at hp
    · obtain ⟨r, hr, rfl⟩ := List.mem_map.1 hp
      split
      · exact hh
      · exact R.ok r hr
    · rcases List.mem_append.1 hp with hp | hp
      · exact R.ok p hp
      · rw [List.mem_singleton] at hp; subst hp; exact hh
  have hnd : ((insN A h v).map (·.1)).Nodup := by
    rw [insN_keys]
    split
    · exact R.nodup
    · rename_i hm
      refine List.nodup_append.2 ⟨R.nodup, List.nodup_cons.2 ⟨by simp, .nil⟩, fun a ha c hc e => ?_⟩
      rw [List.mem_singleton] at hc
      subst hc; subst e; exact hm ha
  simp only [Instr.mapEntry]
  simp only [Sem.run_bind, run_underlying hT w, Result.andThen_ok, hg]
  simp only [Sem.run_bind, Result.andThen_ok, hc]
  rcases find_n hk R hh w with ⟨e1, e2⟩ | ⟨j, u, e1, e2, e3⟩
  · have hvz : v = zv := by rw [← hv0, e2]; rfl
    simp only [e1, Result.andThen_ok, Sem.run_bind, hzr, hset, Sem.run_pure]
    refine ⟨clk, _, by rw [hvz]; rfl, (hw1.put _).imp (fun _ h => h) (fun hp => ⟨_, _, hp, ⟨hnd, hins, ?_, ?_, ?_⟩, ?_⟩) (mapE_stable _ _ _ _ _ _)⟩
    · have : insN A h v = A ++ [(h, v)] := by unfold insN; rw [if_neg (by rw [e2]; simp)]
      rw [this, hvz]
      simp [h4, rowN]
    · rw [Array.toList_push, List.map_append]
      refine List.nodup_append.2 ⟨R.apart, List.nodup_cons.2 ⟨by simp, .nil⟩, fun a ha c hc e => ?_⟩
      obtain ⟨x, hx, rfl⟩ := List.mem_map.1 ha
      have h1 := R.old x hx
      rw [List.map_singleton, List.mem_singleton] at hc
      subst hc
      omega
    · intro x hx
      rw [Array.toList_push] at hx
      rcases List.mem_append.1 hx with hx | hx
      · exact Nat.lt_succ_of_lt (R.old x hx)
      · rw [List.mem_singleton] at hx; subst hx; exact Nat.lt_succ_self _
    · exact ⟨_, by rw [Array.toList_push]; exact List.mem_append_right _ (.head _), rfl, rfl⟩
  · have hj : j < es.size := by
      have := (List.getElem?_eq_some_iff.1 e3).1
      rw [← hlen] at this; simpa using this
    have hvu : v = u := by rw [← hv0, e2]; rfl
    have hkv : es[j].key = .int q (h : Int) ∧ es[j].val = u := by
      have := congrArg (fun l => l[j]?) h4
      simp only [List.getElem?_map, e3, Option.map_some] at this
      have h5 : es.toList[j]? = some es[j] := by simp [hj]
      rw [h5] at this
      simp only [Option.map_some, Option.some.injEq, Prod.mk.injEq, rowN] at this
      exact this
    have hst : (Instr.keyThatStays (((es[j]?).map (·.key)).getD (.int q (h : Int))) (.int q (h : Int))).run P w = .ok (.int q (h : Int)) w := by
      rw [Array.getElem?_eq_getElem hj, Option.map_some, Option.getD_some, hkv.1]
      exact (Maps.int_keyed hk).stays w hkey
    have hsame : (es.modify j fun e => { e with key := .int q (h : Int) }) = es := by
      refine Array.ext_getElem? fun i => ?_
      rw [Array.getElem?_modify]
      split
      · rename_i hij
        subst hij
        rw [Array.getElem?_eq_getElem hj, Option.map_some]
        congr 1
        rw [← hkv.1]
      · rfl
    simp only [e1, Result.andThen_ok, Sem.run_bind, hst, hset, hsame, Sem.run_pure]
    refine ⟨es[j].born, _, by rw [Array.getElem?_eq_getElem hj]; rw [hvu]; rfl, (hw1.put _).imp (fun _ h => h) (fun hp => ⟨_, _, hp, ⟨hnd, hins, ?_, R.apart, R.old⟩, es[j], by simp, hkv.1, rfl⟩) (mapE_stable _ _ _ _ _ _)⟩
    have : insN A h v = A := by
      unfold insN
      rw [if_pos (by rw [e2]; simp)]
      refine (List.map_congr_left fun p hp => ?_).trans (List.map_id _)
      by_cases hph : p.1 = h
      · rw [if_pos hph]
        have := lookN_at R.nodup hp
        rw [hph, e2] at this
        injection this with this
        rw [hvu, this, ← hph]
        rfl
      · rw [if_neg hph]; rfl
    rw [this]
    exact h4
theorem o_mapentry (hk : P.underlying k = some (.int q)) (hok : okOp N l (.mapEntry T x y) d = true) (hx : evO l x = some (.map (some b))) (hy : evO l y = some (.int q (h : Int))) (hT : P.underlying T = some (.map k e)) (hz : (P.info? e).bind (·.zero) = some zv) (hh : okN q h) :
    HO P ⟨some d, .mapEntry T x y, ty, pos, after, g⟩ Q N l (Hp w0 F (mapN q b A :: m)) (α := Nat) (fun s => (d, .tuple #[(A.lookup h).getD zv, .int .i64 (s : Int)]) :: l) (fun s => Hp w0 F (mapE q b (insN A h ((A.lookup h).getD zv)) h s :: m)) :=
  o_mem (val := fun s : Nat => .tuple #[(A.lookup h).getD zv, .int .i64 (s : Int)]) hok (fun w hw => by
    obtain ⟨s, w', h1, h2⟩ := mapentry_run hk hT hz hh hw
    refine ⟨s, w', ?_, h2⟩
    simp only [execOp, ev_of hx, ev_of hy, Sem.run_bind, h1]; rfl)
theorem entrystore_run {w : World} (hw : Hp w0 F (mapE q b A h s :: m) w) : ∃ w', (Instr.entryStore T (.map (some b)) (.int .i64 (s : Int)) v).run P w = .ok () w' ∧ Hp w0 F (mapN q b (A.map fun p => if p.1 = h then (h, v) else p) :: m) w' := by
  obtain ⟨es, clk, h3, R, e0, he0, hk0, hb0⟩ := (hw.item _ (.head _)).1
  have h4 := R.rows
  have hg : (getObj b).run P w = .ok (.map es clk) w := by simp [getObj, Sem.run, h3]
  have hset : ∀ o, (setObj b o).run P w = .ok () (w.putObj b o) := fun o => by simp [setObj, Sem.run, h3, World.putObj]
  have hw1 : Hp w0 F (pt b (.map es clk) :: m) w := hw.imp (fun _ h => h) (fun _ => h3) (pt_stable _ _ _)
  have hlen : es.toList.length = A.length := by have := congrArg List.length h4; simpa using this
  obtain ⟨j, hj, hje⟩ := List.getElem_of_mem he0
  have hj' : j < es.size := by simpa using hj
  have hje' : es[j] = e0 := by simpa using hje
  have hbi : ∀ i (hi : i < es.size), es[i].born = s → i = j := fun i hi hb => by
    rcases Nat.lt_trichotomy i j with hlt | rfl | hlt
    · have := List.pairwise_iff_getElem.1 R.apart i j (by simpa using hi) (by simpa using hj') hlt
      simp only [List.getElem_map, Array.getElem_toList] at this
      exact absurd (by rw [hb, hje', hb0]) this
    · rfl
    · have := List.pairwise_iff_getElem.1 R.apart j i (by simpa using hj') (by simpa using hi) hlt
      simp only [List.getElem_map, Array.getElem_toList] at this
      exact absurd (by rw [hb, hje', hb0]) this
  have hfind : es.findIdx? (fun e => (e.born : Int) == (s : Int)) = some j := by
    rw [Array.findIdx?_eq_some_iff_getElem]
    refine ⟨hj', by rw [hje', hb0]; simp, fun i hij => ?_⟩
    intro hc
    have h5 : es[i].born = s := by
      have hc' : (es[i].born : Int) = (s : Int) := by simpa using hc
      omega
    have := hbi i (by omega) h5
    omega
  simp only [Instr.entryStore]
  simp only [Sem.run_bind, Result.andThen_ok, hg]
  have has : (asInt (.int .i64 (s : Int))).run P w = .ok (s : Int) w := rfl
  simp only [Sem.run_bind, Result.andThen_ok, has, hfind, hset]
  have hborn : (es.modify j fun e => { e with val := v }).toList.map (·.born) = es.toList.map (·.born) := by
    apply List.ext_getElem?
    intro i
    simp only [List.getElem?_map]
    rw [Array.getElem?_toList, Array.getElem?_modify, Array.getElem?_toList]
    split
    · cases es[i]? <;> rfl
    · rfl
  have hkeys : (A.map fun p => if p.1 = h then (h, v) else p).map (·.1) = A.map (·.1) := by
    rw [List.map_map]
    refine List.map_congr_left fun p _ => ?_
    show (if p.1 = h then (h, v) else p).1 = p.1
    split
    · rename_i hp; exact hp.symm
    · rfl
  refine ⟨_, rfl, (hw1.put _).imp (fun _ h => h) (fun hp => ⟨_, _, hp, ⟨by rw [hkeys]; exact R.nodup, ?_, ?_, by rw [hborn]; exact R.apart, ?_⟩⟩) (mapN_stable _ _ _ _)⟩
  · intro p hp
    obtain ⟨r, hr, rfl⟩ := List.mem_map.1 hp
    split
    · rename_i hrh
      rw [← hrh]
      exact R.ok r hr
    · exact R.ok r hr
  · apply List.ext_getElem?
    intro i
    have hi4 := congrArg (fun l => l[i]?) h4
    simp only [List.getElem?_map] at hi4 ⊢
    rw [Array.getElem?_toList, Array.getElem?_modify]
    cases hA : A[i]? with
    | none =>
      rw [hA] at hi4
      have : es[i]? = none := by
        cases hes : es[i]? with
        | none => rfl
        | some x => rw [Array.getElem?_toList, hes] at hi4; cases hi4
      rw [this]
      split <;> rfl
    | some p =>
      rw [hA] at hi4
      have hi : i < es.size := by
        have := (List.getElem?_eq_some_iff.1 hA).1
        rw [← hlen] at this; simpa using this
      rw [Array.getElem?_toList, Array.getElem?_eq_getElem hi] at hi4
      simp only [Option.map_some, Option.some.injEq] at hi4
      rw [Array.getElem?_eq_getElem hi]
      have hkp : es[i].key = .int q (p.1 : Int) := congrArg Prod.fst hi4
      have hvp : es[i].val = p.2 := congrArg Prod.snd hi4
      by_cases hij : j = i
      · subst hij
        rw [if_pos rfl]
        have hph : p.1 = h := by rw [hje', hk0] at hkp; exact (int_inj hkp).symm
        simp only [Option.map_some, if_pos hph, rowN]
        rw [hkp, hph]
      · rw [if_neg hij]
        have hph : p.1 ≠ h := fun hc => by
          have h7 : es[i].key = es[j].key := by rw [hkp, hc, hje', hk0]
          have hK := R.keys
          rcases Nat.lt_or_gt_of_ne hij with hlt | hlt
          · have := List.pairwise_iff_getElem.1 hK j i (by simpa using hj') (by simpa using hi) hlt
            simp only [List.getElem_map, Array.getElem_toList] at this
            exact this h7.symm
          · have := List.pairwise_iff_getElem.1 hK i j (by simpa using hi) (by simpa using hj') hlt
            simp only [List.getElem_map, Array.getElem_toList] at this
            exact this h7
        simp only [Option.map_some, if_neg hph]
        rw [hi4]
  · intro x hx
    have : x.born ∈ es.toList.map (·.born) := by rw [← hborn]; exact List.mem_map.2 ⟨x, hx, rfl⟩
    obtain ⟨y, hy, hxy⟩ := List.mem_map.1 this
    rw [← hxy]; exact R.old y hy
theorem ins_twice (A : NRows) (h : Nat) (u v : Value) : (insN A h u).map (fun p => if p.1 = h then (h, v) else p) = insN A h v := by
  unfold insN
  split
  · rw [List.map_map]
    refine List.map_congr_left fun p _ => ?_
    show (if (if p.1 = h then (h, u) else p).1 = h then (h, v) else if p.1 = h then (h, u) else p) = _
    by_cases hp : p.1 = h
    · simp [hp]
    · simp [hp]
  · rename_i hn
    rw [List.map_append]
    congr 1
    · refine (List.map_congr_left fun p hp => ?_).trans (List.map_id _)
      have : p.1 ≠ h := fun e => hn (lookN_mem.2 (List.mem_map.2 ⟨p, hp, e⟩))
      rw [if_neg this]; rfl
    · simp
theorem o_entrystore {u : Value} (hok : (noSel (.entryStore T x y z) && known l (.entryStore T x y z)) = true) (hx : evO l x = some (.map (some b))) (hy : evO l y = some (.int .i64 (s : Int))) (hz : evO l z = some v) :
    HO P ⟨none, .entryStore T x y z, ty, pos, after, g⟩ Q N l (Hp w0 F (mapE q b (insN A h u) h s :: m)) (α := Unit) (fun _ => l) (fun _ => Hp w0 F (mapN q b (insN A h v) :: m)) :=
  o_skip hok (fun w hw => by
    obtain ⟨w', h1, h2⟩ := entrystore_run (T := T) (v := v) (P := P) hw
    rw [ins_twice] at h2
    refine ⟨(), w', ?_, h2⟩
    simp only [execOp, ev_of hx, ev_of hy, ev_of hz, Sem.run_bind, h1]; rfl)
end
end Go.Eng

namespace Go.Proofs.YtplhamichcnmmaaGreatDoor
open Go.RowKit Go.Eng
set_option maxRecDepth 100000
def kepsG (s : Pg) (x : PR × List Nat) : Prop := (∀ i, x.1.lookup i = (s.C.lookup i).or (s.K.lookup i)) ∧ (∀ i, i ∈ x.2 ↔ i ∈ s.R ∨ (s.C.lookup i).isSome = true) ∧ x.1.Ok s.n ∧ (s.R.Nodup → x.2.Nodup)
theorem lookup_mem_keys {A : PR} {i : Nat} : (A.lookup i).isSome = true ↔ i ∈ A.map (·.1) := by
  constructor
  · intro h
    obtain ⟨b, hb⟩ := Option.isSome_iff_exists.1 h
    exact List.mem_map.2 ⟨(i, b), lookup_memG hb, rfl⟩
  · intro h
    obtain ⟨b, hb⟩ := keys_look h
    rw [hb]; rfl
theorem toB_ins (R : List Nat) (i : Nat) : insN (toB R) i (.bool true) = toB (if i ∈ R then R else R ++ [i]) := by
  unfold insN
  have hm : ((toB R).lookup i).isSome = true ↔ i ∈ R := by rw [lookN_mem, show (toB R).map (·.1) = R from toB_keys R]
  by_cases h : i ∈ R
  · rw [if_pos (hm.2 h), if_pos h]
    unfold toB
    rw [List.map_map]
    refine List.map_congr_left fun n _ => ?_
    show (if n = i then (i, Value.bool true) else (n, .bool true)) = _
    split
    · rename_i e; subst e; rfl
    · rfl
  · rw [if_neg (fun hc => h (hm.1 hc)), if_neg h]
    simp [toB]
structure KpS where
  L : NRows
  c : Option (Nat × Value)
  k : List Nat
  K : PR
  R : List Nat
structure KpOk (s : Pg) (y : KpS) : Prop where
  L : y.L = (toP s.C).filter fun x => decide (x.1 ∉ y.k)
  nd : y.k.Nodup
  sub : ∀ z ∈ y.k, z ∈ s.C.map (·.1)
  look : ∀ i, y.K.lookup i = if i ∈ y.k then s.C.lookup i else s.K.lookup i
  mem : ∀ i, i ∈ y.R ↔ i ∈ s.R ∨ i ∈ y.k
  ok : y.K.Ok s.n
  rn : s.R.Nodup → y.R.Nodup
theorem KpOk.step {s : Pg} {y : KpS} (h : KpOk s y) {p : Nat × Value} (hp : p ∈ y.L) {b : Bys} (hb : s.C.lookup p.1 = some b) (hbo : p.1 < s.n ∧ b.length = 512) : KpOk s ⟨outN y.L p, some p, y.k ++ [p.1], insG y.K p.1 b, if p.1 ∈ y.R then y.R else y.R ++ [p.1]⟩ := by
  obtain ⟨hL, hnd, hsub, hlook, hmem, hok, hrn⟩ := h
  have hpk : p.1 ∉ y.k := by
    rw [hL] at hp
    simpa using (List.mem_filter.1 hp).2
  refine ⟨out_filter hL p, ?_, fun z hz => ?_, fun i => ?_, fun i => ?_, PR.Ok.ins hok hbo.1 hbo.2, ?_⟩
  · rw [List.nodup_append]
    refine ⟨hnd, by simp, fun a ha c hc => ?_⟩
    rw [List.mem_singleton] at hc
    subst hc
    exact fun e => hpk (e ▸ ha)
  · rcases List.mem_append.1 hz with hz | hz
    · exact hsub z hz
    · rw [List.mem_singleton] at hz; subst hz
      exact lookup_mem_keys.1 (by rw [hb]; rfl)
  · show (insG y.K p.1 b).lookup i = _
    rw [insG_lookup, hlook]
    by_cases e : i = p.1
    · subst e; simp [hb]
    · simp [e]
  · show i ∈ (if p.1 ∈ y.R then y.R else y.R ++ [p.1]) ↔ _
    split
    · rename_i hpR
      rw [hmem]
      simp only [List.mem_append, List.mem_singleton]
      constructor
      · rintro (h | h)
        · exact .inl h
        · exact .inr (.inl h)
      · rintro (h | h | h)
        · exact .inl h
        · exact .inr h
        · subst h; exact (hmem _).1 hpR
    · simp only [List.mem_append, List.mem_singleton, hmem]
      constructor
      · rintro ((h | h) | h)
        · exact .inl h
        · exact .inr (.inl h)
        · exact .inr (.inr h)
      · rintro (h | h | h)
        · exact .inl (.inl h)
        · exact .inl (.inr h)
        · exact .inr h
  · intro hn
    show (if p.1 ∈ y.R then y.R else y.R ++ [p.1]).Nodup
    split
    · exact hrn hn
    · rename_i hpR
      rw [List.nodup_append]
      refine ⟨hrn hn, by simp, fun a ha c hc => ?_⟩
      rw [List.mem_singleton] at hc
      subst hc
      exact fun e => hpR (e ▸ ha)
theorem KpOk.done {s : Pg} {y : KpS} (h : KpOk s y) (h0 : y.L = []) (hnd : (s.C.map (·.1)).Nodup) : kepsG s (y.K, y.R) := by
  have hk : ∀ i, i ∈ y.k ↔ (s.C.lookup i).isSome = true := fun i => by
    rw [lookup_mem_keys]
    refine ⟨h.sub i, fun hi => ?_⟩
    by_cases hc : i ∈ y.k
    · exact hc
    · obtain ⟨q, hq, rfl⟩ := List.mem_map.1 hi
      have : (q.1, pgV q.2) ∈ (toP s.C).filter fun x => decide (x.1 ∉ y.k) := List.mem_filter.2 ⟨List.mem_map.2 ⟨q, hq, rfl⟩, by simpa using hc⟩
      rw [← h.L, h0] at this
      exact nomatch this
  refine ⟨fun i => ?_, fun i => ?_, h.ok, ?_⟩
  · show y.K.lookup i = _
    rw [h.look]
    by_cases hc : i ∈ y.k
    · rw [if_pos hc]
      obtain ⟨b, hb⟩ := Option.isSome_iff_exists.1 ((hk i).1 hc)
      rw [hb]; rfl
    · rw [if_neg hc]
      have : s.C.lookup i = none := by
        cases hl : s.C.lookup i with
        | none => rfl
        | some b => exact absurd ((hk i).2 (by rw [hl]; rfl)) hc
      rw [this]; rfl
  · show i ∈ y.R ↔ _
    rw [h.mem, hk]
  · exact h.rn
end Go.Proofs.YtplhamichcnmmaaGreatDoor
