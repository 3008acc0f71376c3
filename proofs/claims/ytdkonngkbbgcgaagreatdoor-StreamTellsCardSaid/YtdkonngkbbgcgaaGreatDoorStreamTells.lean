/- What the cards of layer 33 share: a stream that came in; the tables as they are laid. -/
/- The law StreamTells, as its card states it: for every stream and bytes the function of the law returns true, and all read behind the call as they read before. -/
import Derived.Test.YtdkonngkbbgcgaaGreatDoorLwc
import Derived.Test.YtdkonngkbbgcgaaGreatDoorCards
import Derived.Test.YtdkonngkbbgcgaaGreatDoorTie
import Derived.WalkKit
import Derived.ProofKit
import Derived.OpenShut
import Derived.Below
import Derived.Carry
import Derived.SliceStrings
import Derived.ChangeMaps5
import Derived.Deep.DeepHandedRow
import Derived.Lay
import Derived.LaidMore
import Derived.LaidSub
import Derived.Lib.LaidU8
import Derived.Test.YtdkonngkbbgcgaaGreatDoorLwd
namespace Go.Proofs.YtdkonngkbbgcgaaGreatDoor
open Go.ChangeShapes Go.ChangeMaps Go.WideShapes Go.ChangeAt Go.RowKit Go.Eng Go.Proofs.YtdkonngkbbgcgaaGreatDoor
set_option maxRecDepth 100000
/-- A slice of strings that came in, read as a row. -/
theorem strC {W : World} {H : Type} {enc : TypeId × Value → H} {x : DataW H × List MemPlace} {fuel : Nat} {cs : List Value}
    (hf : DataW.trod enc Tryz.prog W 0 (fun _ => true) true fuel 24 cs = some x) : ∃ (a : Option Addr) (c : Nat) (M : List ByteArray), cs = [.slice a M.length c] ∧ M.length ≤ 9223372036854775807 ∧ StrL W a c M := by
  rcases open_strings Tryz.underlying24 Tryz.underlying9 (by kernel_rfl) hf with ⟨hcs, _⟩ | ⟨x, l, c, ss, hcs, _, hl, hm, hz, _, hcell, hwz⟩
  · exact ⟨none, 0, [], hcs, by simp, .inl rfl, by simp⟩
  · have hm' : c ≤ 9223372036854775807 := hm
    have hz' : ss.length = c := by simpa using hz
    have hlen : (ss.take l).length = l := by simp; omega
    refine ⟨some x, c, ss.take l, by rw [hlen]; exact hcs, by rw [hlen]; omega, ?_, by rw [hlen]; omega⟩
    rcases Nat.eq_zero_or_pos l with h0 | h0
    · subst h0; exact .inl rfl
    have hsp : x.spot = none := by
      have := hcell 0 (by omega)
      unfold World.cell? at this
      split at this
      · split at this
        · cases this
        · rename_i hh
          simpa [Addr.add] using hh
      · cases this
    refine .inr ⟨x.block, x.off, by cases x; simp_all, fun i u hu => ?_⟩
    simp only [Eng.strs, List.getElem?_map, Option.map_eq_some_iff] at hu
    obtain ⟨t, ht, rfl⟩ := hu
    have hi := (List.getElem?_eq_some_iff.1 ht).1
    have hi' : i < ss.length := by simp at hi; omega
    have ha : x.add i = ⟨x.block, x.off + i, none⟩ := by
      unfold Addr.add
      split
      · subst i; cases x; simp_all
      · rfl
    rw [← ha, hcell i hi']
    rw [List.getElem?_take] at ht
    split at ht
    · simp [List.getD, ht]
    · cases ht
/-- A hash that came in. -/
theorem hashC {W : World} {H : Type} {enc : TypeId × Value → H} {x : DataW H × List MemPlace} {fuel : Nat} {cs : List Value}
    (hf : DataW.trod enc Tryz.prog W 0 (fun _ => true) true fuel 23 cs = some x) : ∃ r : Bys, r.length = 32 ∧ cs = bytesV r := by
  obtain ⟨xs, m, rfl, rfl, hl, hx, hel⟩ := DataW.trod_array hash_under hf
  have hc : Tryz.prog.cellsOf 23 = 32 := by kernel_rfl
  have hc1 : Tryz.prog.cellsOf 5 = 1 := by kernel_rfl
  rw [hc] at hl
  rw [hc1] at hel
  have h1 : ∀ i, i < 32 → ∃ b : UInt8, cs[i]? = some (.int .u8 (b.toNat : Int)) := fun i hi => by
    have h2 := hel i hi
    rw [List.getElem?_eq_getElem (by omega)] at h2
    obtain ⟨z, hz, -, hw⟩ := DataW.trod_int byte_under h2
    have hz2 : cs[i]? = some (.int .u8 z) := by
      have := congrArg (·[0]?) hz
      simpa [List.getElem?_take, List.getElem?_drop] using this
    have h3 : 0 ≤ z ∧ z ≤ 255 := by simpa [Lit.wf, IntKind.min, IntKind.max, IntKind.bits, IntKind.signed] using hw
    refine ⟨UInt8.ofNat z.toNat, ?_⟩
    rw [hz2]
    congr 2
    have : (UInt8.ofNat z.toNat).toNat = z.toNat := by simp; omega
    rw [this]; omega
  obtain ⟨f, hfe⟩ : ∃ f : Nat → UInt8, ∀ i, i < 32 → cs[i]? = some (.int .u8 ((f i).toNat : Int)) := by
    classical
    exact ⟨fun i => if h : i < 32 then Classical.choose (h1 i h) else 0, fun i hi => by simp only [dif_pos hi]; exact Classical.choose_spec (h1 i hi)⟩
  refine ⟨(List.range 32).map f, by simp, ?_⟩
  apply List.ext_getElem?
  intro i
  by_cases hi : i < 32
  · rw [hfe i hi, bytesV_at (by simpa using hi)]
    simp
  · rw [List.getElem?_eq_none (by omega), List.getElem?_eq_none (by rw [bytesV_length]; simpa using hi)]
/-- A stream that came in. -/
theorem strmC {W : World} {H : Type} {enc : TypeId × Value → H} {cs : Array Value} {d : DataW H} {p : List MemPlace}
    (h : DataW.Trod enc Tryz.prog W 0 (fun _ => true) true 26 (.agg cs) d p) : ∃ (r : Bys) (l : List Bys) (a : Option Addr) (c : Nat), cs = strmA r a l.length c ∧ r.length = 32 ∧ l.length ≤ 9223372036854775807 ∧ StrL W a c (bas l) := by
  obtain ⟨fuel, hf⟩ := h
  obtain ⟨y0, y1, n, -, hl, t0, t1⟩ := trod_struct2 Tryz.underlying26 hf
  have hcs : (Value.agg cs).cells.toList = cs.toList := by simp [Value.cells]
  rw [hcs] at hl t0 t1
  have hl33 : cs.toList.length = 33 := hl.trans (by kernel_rfl)
  obtain ⟨r, hr, h0⟩ := hashC t0
  obtain ⟨a, c, M, h1, hM, hS⟩ := strC t1
  have h0' : cs.toList.take 32 = bytesV r := by
    have e : (cs.toList.drop 0).take (Tryz.prog.cellsOf 23) = bytesV r := h0
    rwa [show Tryz.prog.cellsOf 23 = 32 by kernel_rfl, List.drop_zero] at e
  have h1' : cs.toList.drop 32 = [.slice a M.length c] := by
    have e : (cs.toList.drop 32).take (Tryz.prog.cellsOf 24) = [.slice a M.length c] := h1
    rw [show Tryz.prog.cellsOf 24 = 1 by kernel_rfl] at e
    rwa [List.take_of_length_le (by rw [List.length_drop]; omega)] at e
  refine ⟨r, M.map fun s => s.data.toList, a, c, ?_, hr, by simpa using hM, ?_⟩
  · apply Array.ext'
    rw [← List.take_append_drop 32 cs.toList, h0', h1', List.length_map]
  · have : bas (M.map fun s => s.data.toList) = M := by
      unfold bas
      rw [List.map_map]
      exact (List.map_congr_left fun s _ => rfl).trans (List.map_id _)
    rw [this]; exact hS
/-- A table of words that is laid. -/
theorem tab_at {W : World} {n : String} {g t : Nat} {sz : Nat} {zs : List (BitVec 32)} (hg : Tryz.prog.globalNamed n = some g) (hty : (Tryz.prog.globals[g]?).map (·.type) = some t) (ht : Tryz.prog.underlying t = some (.array sz 29)) (hct : Tryz.prog.cellsOf t = sz) (h : Lib.VarReads Tryz.prog W n (Lib.tabData .u32 (zs.map fun b => (b.toNat : Int)))) :
    W.rangeAt g 0 (zs.map w32) ∧ (zs ≠ [] → g < W.heap.size) := by
  obtain ⟨g', t', cs, fuel, p, hg', hty', hv, hd⟩ := h
  obtain rfl := Option.some.inj (hg'.symm.trans hg)
  obtain rfl := Option.some.inj (hty'.symm.trans hty)
  have hcs := Lib.cells_of_tab ht Tryz.underlying29 (by kernel_rfl) hct hd
  have hcell : ∀ i, W.cell? ⟨g', i, none⟩ = (zs.map w32)[i]? := fun i => by
    rw [World.var?_cell hg hv i, ← Array.getElem?_toList, hcs, List.map_map]
    rfl
  refine ⟨fun j v hj => by rw [Nat.zero_add, hcell, hj], fun hne => ?_⟩
  cases zs with
  | nil => exact absurd rfl hne
  | cons z zs => exact World.block_lt_of_cell? W _ (hcell 0)
theorem tabs_of_laid {W : World} (h : laidMetH Tryz.prog [("armarium/crc.halves", Rows.laid_armarium_crc_halves), ("armarium/sha.k", Rows.laid_armarium_sha_k), ("armarium/sha.first", Rows.laid_armarium_sha_first)] W) : Tabs W := by
  have h1 : laidMet Tryz.prog [("armarium/crc.halves", Rows.laid_armarium_crc_halves), ("armarium/sha.k", Rows.laid_armarium_sha_k), ("armarium/sha.first", Rows.laid_armarium_sha_first)] W := (laidMetH_iff.1 h).1
  have r1 := Lib.laidMet.reads h1 (n := "armarium/crc.halves") (List.mem_cons_self ..)
  have r2 := Lib.laidMet.reads h1 (n := "armarium/sha.k") (List.mem_cons_of_mem _ (List.mem_cons_self ..))
  have r3 := Lib.laidMet.reads h1 (n := "armarium/sha.first") (List.mem_cons_of_mem _ (List.mem_cons_of_mem _ (List.mem_cons_self ..)))
  have e1 : (Rows.laid_armarium_crc_halves : DataW Unit) = Lib.tabData .u32 (halves.map fun b => (b.toNat : Int)) := by kernel_rfl
  have e2 : (Rows.laid_armarium_sha_k : DataW Unit) = Lib.tabData .u32 (((List.range 64).map Kf).map fun b => (b.toNat : Int)) := by kernel_rfl
  have e3 : (Rows.laid_armarium_sha_first : DataW Unit) = Lib.tabData .u32 (H8.l.map fun b => (b.toNat : Int)) := by kernel_rfl
  rw [e1] at r1
  rw [e2] at r2
  rw [e3] at r3
  have t1 := tab_at (g := 1) (t := 123) (by kernel_rfl) (by kernel_rfl) Tryz.underlying123 (by kernel_rfl) r1
  have t2 := tab_at (g := 2) (t := 30) (by kernel_rfl) (by kernel_rfl) Tryz.underlying30 (by kernel_rfl) r2
  have t3 := tab_at (g := 0) (t := 104) (by kernel_rfl) (by kernel_rfl) Tryz.underlying104 (by kernel_rfl) r3
  refine ⟨t3.1, t1.1, ?_, fun k hk => Nat.lt_of_le_of_lt (show k ≤ 2 from Nat.le_of_lt_succ hk) (t2.2 (by decide))⟩
  have := t2.1
  rwa [List.map_map] at this
theorem own : ownKnob Tryz.prog.godebug = none := by kernel_rfl
theorem laidOut : laidOutB Tryz.prog = true := by kernel_rfl
end Go.Proofs.YtdkonngkbbgcgaaGreatDoor

namespace Go.Proofs.YtdkonngkbbgcgaaGreatDoor.streamTells
open Go.ChangeShapes Go.ChangeMaps Go.WideShapes Go.ChangeAt Go.RowKit Go.Eng Go.Proofs.YtdkonngkbbgcgaaGreatDoor
set_option maxRecDepth 100000
/-- What the walk gives, for every argument. -/
theorem contract (H : Type) (enc : TypeId × Value → H) (W : World) (base : Nat) (args : Array Value) (ds gs : List (DataW H)) (before : List MemPlace)
    (hval : ∀ (j : Nat) t v, Tryz.f3.params[j]? = some t → args[j]? = some v → Value.okWide Tryz.prog W .any base t v)
    (hW : DataW.Whole enc Tryz.prog Tryz.f3.params.toList Rows.streamTellsSpec.vars false W args.toList ds gs before) (hL : laidMetH Tryz.prog Rows.streamTellsRow.laid W) :
    Calls Tryz.prog 3 args W fun e W' => ∃ v, e = .returned v ∧ Rows.streamTellsSpec.post enc Tryz.prog Tryz.f3 false true false false W args v W' := by
  have hW' := hW
  obtain ⟨p, q, hA0, hV, rfl, hfz, hnd⟩ := hW
  have hA : DataW.TrodAll enc Tryz.prog W 0 (fun _ => true) true Tryz.f3.params.toList args.toList ds p := hA0
  rw [Tryz.params3] at hA hval
  obtain ⟨v0, vs0, d0, ds0, p0, q0, hargs, rfl, rfl, h0, r0⟩ := trodAll_cons hA
  obtain ⟨v1, vs1, d1, ds1, p1, q1, rfl, rfl, rfl, h1, r1⟩ := trodAll_cons r0
  obtain ⟨rfl, rfl, rfl⟩ := trodAll_nil r1
  obtain rfl : args = #[v0, v1] := by cases args; simp_all
  obtain ⟨rfl, rfl⟩ := trodVars_none hV
  obtain ⟨cs0, rfl, -⟩ := okWide_struct Tryz.underlying26 (hval 0 26 v0 rfl rfl)
  obtain ⟨s1, rfl, rfl, rfl, w1⟩ := open_string Tryz.underlying9 (hval 1 9 v1 rfl rfl) h1
  have k0 := h0
  have lt0 : ∀ x ∈ p0, x.block < W.heap.size := by obtain ⟨m, hm⟩ := k0; exact DataW.trod_lt m _ _ _ hm
  obtain ⟨r, l, a, c, hcs, hr, hl, hB⟩ := strmC h0
  clear hA0 hval
  have hcall := tells_calls r l a c s1.data.toList hr hl (by rw [Array.length_toList]; exact w1) W hB (tabs_of_laid hL)
  rw [← hcs] at hcall
  refine hcall.calls.mono fun e W' ⟨he, hfr⟩ => ?_
  have bel := hfr.below
  subst he
  exact ⟨_, rfl, _, _, _, [], _, [], hW', trodAll_mk1 (shut_bool Tryz.underlying4 _), (trodAll_cons_mk (Below.trod laidOut (by kernel_rfl) (of_decide_eq_true (by kernel_rfl)) k0 bel lt0) (trodAll_cons_mk (shut_string Tryz.underlying9 w1) trodAll_mk0)), rfl, bel.frame _, fun h => by cases h⟩
/-- A world for the witness: the listed variables hold what the row says. -/
noncomputable def laidWorld (os : Os) : World := World.laidAll Tryz.prog os Rows.streamTellsRow.laid
def args0 : Array Value := #[.agg (((List.replicate 32 (Value.int .u8 0)) ++ [Value.slice none 0 0]).toArray), .string ⟨#[]⟩]
set_option maxRecDepth 100000 in
theorem laid_met (os : Os) : laidMet Tryz.prog Rows.streamTellsRow.laid ((laidWorld os).forCall (fun _ _ => 0) ⟨#[], args0, []⟩).memory := laidMet_laidAll _ (by kernel_rfl) (by kernel_rfl)
theorem reads (os : Os) {H : Type} (enc : TypeId × Value → H) : ∃ places, DataW.whole enc Tryz.prog ((laidWorld os).forCall (fun _ _ => 0) ⟨#[], args0, []⟩).memory Tryz.f3.params.toList Rows.streamTellsSpec.vars false args0.toList 8 = some ([.agg [.agg (List.replicate 32 (.lit (.int .u8 0))), .nil], .lit (.string [])], [], places) :=
  ⟨[], by kernel_rfl⟩
set_option maxRecDepth 100000 in
theorem witness (os : Os) {H : Type} (enc : TypeId × Value → H) : ∃ (w : World) (tape : Tape) (i : Input), w.os = os ∧ (w.forCall tape i).Shaped Tryz.prog ∧ i.vars = [] ∧ Input.okWide Tryz.prog (w.forCall tape i) .any w.heap.size 3 i ∧
    (OpenSpec.ofChange Rows.streamTellsSpec).preRow enc Tryz.prog Tryz.f3 Rows.streamTellsRow.domain false Rows.streamTellsRow.laid (w.forCall tape i).memory i.args ∧ ({} : Assume).holds Tryz.prog (lone (Frame.enter Tryz.prog 3 i.args .normal) [] (w.forCall tape i)) := by
  obtain ⟨places, hx⟩ := reads os enc
  have hok : Input.okWideB Tryz.prog ((laidWorld os).forCall (fun _ _ => 0) ⟨#[], args0, []⟩) 3 ⟨#[], args0, []⟩ = true := by kernel_rfl
  refine ⟨laidWorld os, fun _ _ => 0, ⟨#[], args0, []⟩, World.laidAll_os _ _ _, World.shaped_of_ZipB (by kernel_rfl) (by kernel_rfl), (Input.okWide_of_okWideB (base := 0) hok).1, (Input.okWide_of_okWideB hok).2, ?_, ?_⟩
  · exact OpenSpec.preRow_of_cond 8 hx (by kernel_rfl) (fun k hk => by cases hk) (by kernel_rfl) (laid_met os)
  · simp only [Assume.holds]
    exact ⟨by simp, by simp, by simp, by simp, by simp⟩
set_option maxRecDepth 100000 in
theorem lifted (os : Os) (started : os.Started) (H : Type) (enc : TypeId × Value → H) (F : Stop.Interp) :
    ReturnsInHanded {} Tryz.checked os 3 .any ((OpenSpec.ofChange Rows.streamTellsSpec).preRow enc Tryz.prog Tryz.f3 Rows.streamTellsRow.domain false Rows.streamTellsRow.laid) (((OpenSpec.ofChange Rows.streamTellsSpec).at F).post enc Tryz.prog Tryz.f3 false true false false) := by
  refine returnsInHanded_of_row (C := Tryz.checked) (s := OpenSpec.ofChange Rows.streamTellsSpec) own started (by kernel_rfl) Tryz.func3 (witness os enc) ?_
  intro W base args ds gs before hval hW _ _ _ hL _ _
  exact contract H enc W base args ds gs before hval hW hL
theorem said : Rows.StreamTellsSaid :=
  OpenClaim.holds_of_cond 3 Tryz.f3 rfl rfl rfl rfl rfl rfl rfl ⟨rfl, rfl, rfl, rfl, rfl⟩ rfl rfl rfl rfl rfl (by kernel_rfl) Tryz.func3 (by kernel_rfl)
    (of_decide_eq_true (by kernel_rfl)) (by unfold Func.isWrapper; first | (rw [if_pos (by decide +kernel)]; kernel_rfl) | (rw [if_neg (by decide +kernel)]; exact ⟨rfl, rfl⟩))
    (fun os started H enc _ F => by rw [OpenClaim.pre_eq_preRow]; exact lifted os started H enc F)
/-- No parameter wants a stand-in; the program's own looks are off: what the card asks. -/
theorem plain (f : FuncId) (fn : Func) (hf : Tryz.pinned.checked.prog.funcNamed Rows.streamTellsRow.func = some f) (hfn : Tryz.pinned.checked.prog.funcs[f]? = some fn) :
    true = Tryz.pinned.checked.prog.looks [] ∧ ∀ (j : Nat) t, fn.params[j]? = some t → Tryz.pinned.checked.prog.wantsStandIn t = false := by
  obtain rfl : f = 3 := Option.some.inj ((show Tryz.prog.funcNamed Rows.streamTellsRow.func = some 3 by kernel_rfl).symm.trans hf) |>.symm
  obtain rfl : fn = Tryz.f3 := (Option.some.inj (Tryz.func3.symm.trans hfn)).symm
  refine ⟨by kernel_rfl, fun j t ht => ?_⟩
  rw [Tryz.params3] at ht
  obtain rfl | rfl : t = 26 ∨ t = 9 := by
    have := Array.mem_of_getElem? ht
    simp at this
    exact this
  · exact (show Tryz.prog.wantsStandIn 26 = false by kernel_rfl)
  · exact (show Tryz.prog.wantsStandIn 9 = false by kernel_rfl)
/-- The card. -/
theorem card : Rows.StreamTellsCardSaid :=
  Claim7.holds_tied_plain_at .later [] _ _ _ _ said (fun _ h => by cases h) (by kernel_rfl) (fun _ h => by cases h) streamTells_row_tie rfl ⟨rfl, rfl⟩ (by kernel_rfl) rfl plain (by kernel_rfl)
#print axioms card
end Go.Proofs.YtdkonngkbbgcgaaGreatDoor.streamTells
