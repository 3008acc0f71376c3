/- What the cards of FindFinds and FindItself share: entries that came in as a row; the table of kinds, as the listed variable lies; the world of the witness. -/
import Derived.Test.YtndlmdpljciilaaDoorFoi
import Derived.Test.YtndlmdpljciilaaDoorCards
import Derived.Test.YtndlmdpljciilaaDoorTie
import Derived.WalkKit
import Derived.ProofKit
import Derived.OpenShut
import Derived.Below
import Derived.Carry
import Derived.SliceStrings
import Derived.ChangeMaps5
import Derived.Deep.DeepHandedRow
import Derived.Lay
import Derived.LaidMore
import Derived.LaidHandle
import Derived.Lib.SmallJoins
import Derived.WideKeyElems2
namespace Go.Proofs.YtndlmdpljciilaaDoor
open Go.ChangeShapes Go.ChangeMaps Go.WideShapes Go.ChangeAt Go.RowKit Go.Eng Go.Proofs.YtndlmdpljciilaaDoor
set_option maxRecDepth 100000
/-- An entry that is read. -/
theorem ent_of_trod {W : World} {sp : Nat → Bool} {held : Bool} {H : Type} {enc : TypeId × Value → H} {cs : List Value} {y : DataW H × List MemPlace} {n : Nat} (h : DataW.trod enc Tryd.prog W 0 sp held n 50 cs = some y) : ∃ e : Ent, cs = e.vs := by
  obtain ⟨y0, y1, y2, m, -, hl, t0, t1, t2⟩ := Go.Deep.trod_struct3 Tryd.underlying50 h
  have hl3 : cs.length = 3 := hl.trans (by kernel_rfl)
  match cs, hl3 with
  | [a, b, c], _ =>
    obtain ⟨p, hp, -⟩ := DataW.trod_string Tryd.underlying9 t0
    obtain ⟨d, hd, -⟩ := DataW.trod_bool Tryd.underlying4 t1
    obtain ⟨t, ht, -⟩ := DataW.trod_string Tryd.underlying9 t2
    have hp' : (([a, b, c] : List Value).drop 0).take (Tryd.prog.cellsOf 9) = [.string p] := hp
    have hd' : (([a, b, c] : List Value).drop 1).take (Tryd.prog.cellsOf 4) = [.bool d] := hd
    have ht' : (([a, b, c] : List Value).drop 2).take (Tryd.prog.cellsOf 9) = [.string t] := ht
    rw [show Tryd.prog.cellsOf 9 = 1 by kernel_rfl] at hp' ht'
    rw [show Tryd.prog.cellsOf 4 = 1 by kernel_rfl] at hd'
    simp at hp' hd' ht'
    exact ⟨⟨p, d, t⟩, by rw [hp', hd', ht']; rfl⟩
theorem addr_at {W : World} {a : Addr} {v : Value} (h : W.cell? a = some v) : a.spot = none := by
  unfold World.cell? at h
  split at h
  · split at h
    · cases h
    · rename_i hh
      simpa using hh
  · cases h
/-- A slice of entries that came in, read as a row. -/
theorem entL {W : World} {a0 : Option Addr} {len0 cap0 : Nat} {H : Type} {enc : TypeId × Value → H} {x : DataW H × List MemPlace} {fuel : Nat}
    (hf : DataW.trod enc Tryd.prog W 0 (fun _ => true) true fuel 36 (Value.slice a0 len0 cap0).cells.toList = some x) : ∃ L : List Ent, L.length = len0 ∧ Rd W a0 (rowsV Ent.vs L) := by
  rcases Go.Deep.open_slice Tryd.underlying36 hf with ⟨hcs, _⟩ | ⟨a, len, cap, m, n, D, Pl, hcs, hb, hl, hm, hmm, hx, hel⟩
  · simp [Value.cells] at hcs
    obtain ⟨rfl, rfl, rfl⟩ := hcs
    exact ⟨[], rfl, .inl rfl⟩
  · simp [Value.cells] at hcs
    obtain ⟨rfl, rfl, rfl⟩ := hcs
    simp only [if_true] at hmm
    rw [show Tryd.prog.cellsOf 50 = 3 by kernel_rfl] at hel
    have h1 : ∀ i, i < len0 → ∃ e : Ent, W.cells? 0 (a.add (i * 3)) 3 = some e.vs := fun i hi => by
      obtain ⟨cs, c1, c2⟩ := hel i (by omega)
      obtain ⟨e, rfl⟩ := ent_of_trod c2
      exact ⟨e, c1⟩
    obtain ⟨f, hfe⟩ : ∃ f : Nat → Ent, ∀ i, i < len0 → W.cells? 0 (a.add (i * 3)) 3 = some (f i).vs := by
      classical
      exact ⟨fun i => if h : i < len0 then Classical.choose (h1 i h) else ⟨⟨#[]⟩, false, ⟨#[]⟩⟩, fun i hi => by simp only [dif_pos hi]; exact Classical.choose_spec (h1 i hi)⟩
    refine ⟨(List.range len0).map f, by simp, ?_⟩
    rcases Nat.eq_zero_or_pos len0 with h0 | h0
    · subst h0; exact .inl rfl
    have hcell : ∀ i, i < len0 → ∀ j v, (f i).vs[j]? = some v → W.cell? ((a.add (i * 3)).add j) = some v := fun i hi j v hv => by
      have hj : j < 3 := (List.getElem?_eq_some_iff.1 hv).1
      rw [(World.cells?_some (hfe i hi)).2.2 j hj, hv]
    have hsp : a.spot = none := by
      have := hcell 0 h0 0 _ rfl
      simp only [Nat.zero_mul] at this
      exact addr_at (by simpa [Addr.add] using this)
    obtain ⟨ab, ao, asp⟩ := a
    simp only at hsp
    subst hsp
    refine .inr ⟨ab, ao, rfl, fun k u hu => ?_⟩
    have hk : k < len0 * 3 := by
      have := (List.getElem?_eq_some_iff.1 hu).1
      rw [rowsV_length Ent.sz] at this
      simpa using this
    have hdm : k = (k / 3) * 3 + k % 3 := by omega
    have hi : k / 3 < len0 := by omega
    rw [hdm, rowsV_at Ent.sz (by simpa using hi) (by omega)] at hu
    simp only [List.getElem_map, List.getElem_range] at hu
    have := hcell _ hi _ _ hu
    rw [add_at, add_at] at this
    rw [hdm, ← Nat.add_assoc]
    exact this
/-- What a look at the table finds. -/
theorem find_in : ∀ (es : List MapEntry) (i : Nat), (∀ x ∈ es, ∃ n : Nat, n ≤ 2 ∧ x.key = .int .u8 n ∧ x.val = kindFn n) → ∀ q : Nat, ∃ r, Instr.findNow (.int .u8) (.int .u8 q) es i = some r ∧ (2 < q → r = none) ∧ ((∃ x ∈ es, x.key = .int .u8 q) → ∃ j, r = some (j, kindFn q))
  | [], i, _, q => ⟨none, rfl, fun _ => rfl, fun ⟨x, hx, _⟩ => by cases hx⟩
  | x :: es, i, h, q => by
    obtain ⟨n, hn, hk, hv⟩ := h x (by simp)
    by_cases e : q = n
    · subst e
      refine ⟨some (i, x.val), ?_, fun h => by omega, fun _ => ⟨i, by rw [hv]⟩⟩
      simp [Instr.findNow, hk, Instr.sameNow]
    · obtain ⟨r, h1, h2, h3⟩ := find_in es (i + 1) (fun y hy => h y (by simp [hy])) q
      have hne : ((q : Int) == (n : Int)) = false := by rw [beq_eq_false_iff_ne]; omega
      refine ⟨r, ?_, h2, fun ⟨y, hy, hyk⟩ => h3 ?_⟩
      · simp [Instr.findNow, hk, Instr.sameNow, hne, h1]
      · rcases List.mem_cons.1 hy with rfl | hy
        · rw [hk] at hyk; simp only [Value.int.injEq, true_and] at hyk; omega
        · exact ⟨y, hy, hyk⟩
theorem func_cells {P : Program} {W : World} {t : TypeId} {ps rs : Array TypeId} {va : Bool} {H : Type} {enc : TypeId × Value → H} {sp : Nat → Bool} {held : Bool} {n : Nat} {cs : List Value} {y : DataW H × List MemPlace} (ht : P.underlying t = some (.func ps rs va)) (h : DataW.trod enc P W 0 sp held n t cs = some y) : ∃ v, cs = [v] := by
  cases n with
  | zero => simp [DataW.trod] at h
  | succ n =>
    rw [DataW.trod_step] at h
    unfold DataW.trodStep at h
    simp only [ht] at h
    split at h <;> first | exact ⟨_, rfl⟩ | simp_all
theorem key_u8 {v : Value} {m : Nat} (h : keyOf Tryd.prog 5 v = some (.int .u8 m)) : v = .int .u8 m := by
  have hu := Tryd.underlying5
  cases v with
  | int k n =>
    simp only [keyOf, mapKey, hu] at h
    split at h
    · rename_i hq
      simp only [Option.some.injEq, Lit.int.injEq, true_and] at h
      rw [hq.1, h]
    · cases h
  | _ => simp [keyOf, mapKey, hu] at h
theorem val_of_cells {P : Program} {t : TypeId} {ps rs : Array TypeId} {va : Bool} (ht : P.underlying t = some (.func ps rs va)) {x : Value} (hf : x.formed P t = true) {v : Value} (h : x.cells.toList = [v]) : x = v := by
  cases x with
  | agg cs => simp [Value.formed, ht] at hf
  | _ => simpa [Value.cells] using h
/-- The table's name, as the row lists it. -/
def kn : String := (Rows.findFindsRow.laid.map (·.1)).getD 1 ""
theorem kinds_of_laid {W : World} (h : laidMetH Tryd.prog Rows.findFindsRow.laid W) : KindsAt W := by
  obtain ⟨g, t, cs, fuel, p, hg, ht, hv, hd⟩ := h.funcs (n := kn) (List.mem_cons_of_mem _ (List.mem_cons_self ..))
  obtain rfl := Option.some.inj ((show Tryd.prog.globalNamed kn = some 0 by kernel_rfl).symm.trans hg)
  obtain rfl := Option.some.inj ((show (Tryd.prog.globals[0]?).map (·.type) = some 60 by kernel_rfl).symm.trans ht)
  rcases WideElems.open_map Tryd.underlying60 hd with ⟨-, hx⟩ | ⟨b, es, clk, n, rfl, hcs, hb, -, F, hx⟩
  · simp [DataW.funcsOut] at hx
  have hsort := (congrArg Prod.fst hx)
  simp only [DataW.map.injEq, DataW.funcsOut] at hsort
  have hperm := sorted_perm (es.toList.map (WideElems.rg Tryd.prog 5 (WideElems.elemAt (funcToken Tryd.prog) Tryd.prog W 0 (fun _ => true) true n 58)))
  rw [← hsort] at hperm
  have hin : ∀ x ∈ es.toList, ∃ m : Nat, m ≤ 2 ∧ x.key = .int .u8 m ∧ x.val = kindFn m := fun x hx => by
    obtain ⟨y, hy⟩ := F.reads x hx
    have hrg := WideElems.rg_of hy
    have hm := hperm.mem_iff.2 (List.mem_map.2 ⟨x, hx, hrg⟩)
    have hkey := WideElems.rd_key hy
    obtain ⟨z, hz, hzy⟩ := WideElems.rd_val hy
    have hz2 : x.val.formed Tryd.prog 58 = true ∧ DataW.trod (funcToken Tryd.prog) Tryd.prog W 0 (fun _ => true) true n 58 x.val.cells.toList = some z := by
      unfold WideElems.elemAt at hz
      split at hz
      · rename_i hf; exact ⟨hf, hz⟩
      · cases hz
    obtain ⟨v, hv'⟩ := func_cells Tryd.underlying58 hz2.2
    rw [hv'] at hz2
    simp only [DataW.funcsOutEntries, List.mem_cons, List.not_mem_nil, or_false, DataW.funcsOut] at hm
    rcases hm with rfl | rfl | rfl
    · obtain ⟨z1, z2⟩ := z
      simp only at hzy
      subst hzy
      have hfn := func_of_trod (f0 := 103) Tryd.underlying58 (by kernel_rfl) hz2.2
      exact ⟨0, by decide, key_u8 (m := 0) hkey, (val_of_cells Tryd.underlying58 hz2.1 hv').trans hfn⟩
    · obtain ⟨z1, z2⟩ := z
      simp only at hzy
      subst hzy
      have hfn := func_of_trod (f0 := 104) Tryd.underlying58 (by kernel_rfl) hz2.2
      exact ⟨1, by decide, key_u8 (m := 1) hkey, (val_of_cells Tryd.underlying58 hz2.1 hv').trans hfn⟩
    · obtain ⟨z1, z2⟩ := z
      simp only at hzy
      subst hzy
      have hfn := func_of_trod (f0 := 105) Tryd.underlying58 (by kernel_rfl) hz2.2
      exact ⟨2, by decide, key_u8 (m := 2) hkey, (val_of_cells Tryd.underlying58 hz2.1 hv').trans hfn⟩
  refine ⟨b, es, clk, ?_, hb, fun q => ?_⟩
  · have := World.var?_cell hg hv 0
    rw [Array.eq_one_of_toList hcs] at this
    simpa using this
  · obtain ⟨r, h1, h2, h3⟩ := find_in es.toList 0 hin q
    refine ⟨r, h1, fun hq => h3 ?_, h2⟩
    have hex : ∀ pr, pr ∈ DataW.funcsOutEntries [(Lit.int .u8 0, DataW.iface "func" (.lit (.string [97, 114, 109, 97, 114, 105, 117, 109, 47, 102, 105, 110, 100, 46, 107, 105, 110, 100, 115, 36, 49]))), (.int .u8 1, .iface "func" (.lit (.string [97, 114, 109, 97, 114, 105, 117, 109, 47, 102, 105, 110, 100, 46, 107, 105, 110, 100, 115, 36, 50]))), (.int .u8 2, .iface "func" (.lit (.string [97, 114, 109, 97, 114, 105, 117, 109, 47, 102, 105, 110, 100, 46, 107, 105, 110, 100, 115, 36, 51])))] → ∀ m : Nat, pr.1 = .int .u8 m → ∃ x ∈ es.toList, x.key = .int .u8 m := fun pr hpr m hm => by
      obtain ⟨x, hx, hrg⟩ := List.mem_map.1 (hperm.mem_iff.1 hpr)
      obtain ⟨y, hy⟩ := F.reads x hx
      have h4 := WideElems.rd_key hy
      rw [← WideElems.rg_of hy, hrg, hm] at h4
      exact ⟨x, hx, key_u8 h4⟩
    match q, hq with
    | 0, _ => exact hex _ (by simp [DataW.funcsOutEntries]; exact .inl rfl) 0 rfl
    | 1, _ => exact hex _ (by simp [DataW.funcsOutEntries]; exact .inr (.inl rfl)) 1 rfl
    | 2, _ => exact hex _ (by simp [DataW.funcsOutEntries]; exact .inr (.inr rfl)) 2 rfl
theorem own : ownKnob Tryd.prog.godebug = none := by kernel_rfl
theorem laidOut : laidOutB Tryd.prog = true := by kernel_rfl
/-- A world for the witness: the heap that the variables' door leaves, and the tables laid into it. -/
def dataL : List (String × DataW Unit) := Rows.findFindsRow.laid.filter fun x => x.2.handleName?.isNone
def great : List String := dataL.map (·.1)
noncomputable def laidWorld (os : Os) : World := (World.doorLaid Tryd.prog 4000 os).layVars Tryd.prog (dataL.filter fun x => great.contains x.1)
theorem laid_met (os : Os) (args : Array Value) : laidMetH Tryd.prog Rows.findFindsRow.laid ((laidWorld os).forCall (fun _ _ => 0) ⟨#[], args, []⟩).memory :=
  laidMetH_of_parts3 (fuel := 8) (laidMet_layVars (w0 := World.doorLaid Tryd.prog 4000 os) great [] (by simp [World.memory, World.forCall, Input.heap, laidWorld, dataL]) (by kernel_rfl) (by kernel_rfl) LaidIn.none) (by kernel_rfl) (by kernel_rfl)
theorem laid_os (os : Os) : (laidWorld os).os = os := World.layVars_os _ _ _
end Go.Proofs.YtndlmdpljciilaaDoor
