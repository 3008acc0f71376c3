/- What the cards of layer 33 share: a stream that came in; the tables as they are laid. -/
import Derived.Test.YtdkonngkbbgcgaaGreatDoorLwc
import Derived.Test.YtdkonngkbbgcgaaGreatDoorCards
import Derived.Test.YtdkonngkbbgcgaaGreatDoorTie
import Derived.WalkKit
import Derived.ProofKit
import Derived.OpenShut
import Derived.Below
import Derived.Carry
import Derived.SliceStrings
import Derived.ChangeMaps5
import Derived.Deep.DeepHandedRow
import Derived.Lay
import Derived.LaidMore
import Derived.LaidSub
import Derived.Lib.LaidU8
namespace Go.Proofs.YtdkonngkbbgcgaaGreatDoor
open Go.ChangeShapes Go.ChangeMaps Go.WideShapes Go.ChangeAt Go.RowKit Go.Eng Go.Proofs.YtdkonngkbbgcgaaGreatDoor
set_option maxRecDepth 100000
/-- A slice of strings that came in, read as a row. -/
theorem strC {W : World} {H : Type} {enc : TypeId × Value → H} {x : DataW H × List MemPlace} {fuel : Nat} {cs : List Value}
    (hf : DataW.trod enc Tryz.prog W 0 (fun _ => true) true fuel 24 cs = some x) : ∃ (a : Option Addr) (c : Nat) (M : List ByteArray), cs = [.slice a M.length c] ∧ M.length ≤ 9223372036854775807 ∧ StrL W a c M := by
  rcases open_strings Tryz.underlying24 Tryz.underlying9 (by kernel_rfl) hf with ⟨hcs, _⟩ | ⟨x, l, c, ss, hcs, _, hl, hm, hz, _, hcell, hwz⟩
  · exact ⟨none, 0, [], hcs, by simp, .inl rfl, by simp⟩
  · have hm' : c ≤ 9223372036854775807 := hm
    have hz' : ss.length = c := by simpa using hz
    have hlen : (ss.take l).length = l := by simp; omega
    refine ⟨some x, c, ss.take l, by rw [hlen]; exact hcs, by rw [hlen]; omega, ?_, by rw [hlen]; omega⟩
    rcases Nat.eq_zero_or_pos l with h0 | h0
    · subst h0; exact .inl rfl
    have hsp : x.spot = none := by
      have := hcell 0 (by omega)
      unfold World.cell? at this
      split at this
      · split at this
        · cases this
        · rename_i hh
          simpa [Addr.add] using hh
      · cases this
    refine .inr ⟨x.block, x.off, by cases x; simp_all, fun i u hu => ?_⟩
    simp only [Eng.strs, List.getElem?_map, Option.map_eq_some_iff] at hu
    obtain ⟨t, ht, rfl⟩ := hu
    have hi := (List.getElem?_eq_some_iff.1 ht).1
    have hi' : i < ss.length := by simp at hi; omega
    have ha : x.add i = ⟨x.block, x.off + i, none⟩ := by
      unfold Addr.add
      split
      · subst i; cases x; simp_all
      · rfl
    rw [← ha, hcell i hi']
    rw [List.getElem?_take] at ht
    split at ht
    · simp [List.getD, ht]
    · cases ht
/-- A hash that came in. -/
theorem hashC {W : World} {H : Type} {enc : TypeId × Value → H} {x : DataW H × List MemPlace} {fuel : Nat} {cs : List Value}
    (hf : DataW.trod enc Tryz.prog W 0 (fun _ => true) true fuel 23 cs = some x) : ∃ r : Bys, r.length = 32 ∧ cs = bytesV r := by
  obtain ⟨xs, m, rfl, rfl, hl, hx, hel⟩ := DataW.trod_array hash_under hf
  have hc : Tryz.prog.cellsOf 23 = 32 := by kernel_rfl
  have hc1 : Tryz.prog.cellsOf 5 = 1 := by kernel_rfl
  rw [hc] at hl
  rw [hc1] at hel
  have h1 : ∀ i, i < 32 → ∃ b : UInt8, cs[i]? = some (.int .u8 (b.toNat : Int)) := fun i hi => by
    have h2 := hel i hi
    rw [List.getElem?_eq_getElem (by omega)] at h2
    obtain ⟨z, hz, -, hw⟩ := DataW.trod_int byte_under h2
    have hz2 : cs[i]? = some (.int .u8 z) := by
      have := congrArg (·[0]?) hz
      simpa [List.getElem?_take, List.getElem?_drop] using this
    have h3 : 0 ≤ z ∧ z ≤ 255 := by simpa [Lit.wf, IntKind.min, IntKind.max, IntKind.bits, IntKind.signed] using hw
    refine ⟨UInt8.ofNat z.toNat, ?_⟩
    rw [hz2]
    congr 2
    have : (UInt8.ofNat z.toNat).toNat = z.toNat := by simp; omega
    rw [this]; omega
  obtain ⟨f, hfe⟩ : ∃ f : Nat → UInt8, ∀ i, i < 32 → cs[i]? = some (.int .u8 ((f i).toNat : Int)) := by
    classical
    exact ⟨fun i => if h : i < 32 then Classical.choose (h1 i h) else 0, fun i hi => by simp only [dif_pos hi]; exact Classical.choose_spec (h1 i hi)⟩
  refine ⟨(List.range 32).map f, by simp, ?_⟩
  apply List.ext_getElem?
  intro i
  by_cases hi : i < 32
  · rw [hfe i hi, bytesV_at (by simpa using hi)]
    simp
  · rw [List.getElem?_eq_none (by omega), List.getElem?_eq_none (by rw [bytesV_length]; simpa using hi)]
/-- A stream that came in. -/
theorem strmC {W : World} {H : Type} {enc : TypeId × Value → H} {cs : Array Value} {d : DataW H} {p : List MemPlace}
    (h : DataW.Trod enc Tryz.prog W 0 (fun _ => true) true 26 (.agg cs) d p) : ∃ (r : Bys) (l : List Bys) (a : Option Addr) (c : Nat), cs = strmA r a l.length c ∧ r.length = 32 ∧ l.length ≤ 9223372036854775807 ∧ StrL W a c (bas l) := by
  obtain ⟨fuel, hf⟩ := h
  obtain ⟨y0, y1, n, -, hl, t0, t1⟩ := trod_struct2 Tryz.underlying26 hf
  have hcs : (Value.agg cs).cells.toList = cs.toList := by simp [Value.cells]
  rw [hcs] at hl t0 t1
  have hl33 : cs.toList.length = 33 := hl.trans (by kernel_rfl)
  obtain ⟨r, hr, h0⟩ := hashC t0
  obtain ⟨a, c, M, h1, hM, hS⟩ := strC t1
  have h0' : cs.toList.take 32 = bytesV r := by
    have e : (cs.toList.drop 0).take (Tryz.prog.cellsOf 23) = bytesV r := h0
    rwa [show Tryz.prog.cellsOf 23 = 32 by kernel_rfl, List.drop_zero] at e
  have h1' : cs.toList.drop 32 = [.slice a M.length c] := by
    have e : (cs.toList.drop 32).take (Tryz.prog.cellsOf 24) = [.slice a M.length c] := h1
    rw [show Tryz.prog.cellsOf 24 = 1 by kernel_rfl] at e
    rwa [List.take_of_length_le (by rw [List.length_drop]; omega)] at e
  refine ⟨r, M.map fun s => s.data.toList, a, c, ?_, hr, by simpa using hM, ?_⟩
  · apply Array.ext'
    rw [← List.take_append_drop 32 cs.toList, h0', h1', List.length_map]
  · have : bas (M.map fun s => s.data.toList) = M := by
      unfold bas
      rw [List.map_map]
      exact (List.map_congr_left fun s _ => rfl).trans (List.map_id _)
    rw [this]; exact hS
/-- A table of words that is laid. -/
theorem tab_at {W : World} {n : String} {g t : Nat} {sz : Nat} {zs : List (BitVec 32)} (hg : Tryz.prog.globalNamed n = some g) (hty : (Tryz.prog.globals[g]?).map (·.type) = some t) (ht : Tryz.prog.underlying t = some (.array sz 29)) (hct : Tryz.prog.cellsOf t = sz) (h : Lib.VarReads Tryz.prog W n (Lib.tabData .u32 (zs.map fun b => (b.toNat : Int)))) :
    W.rangeAt g 0 (zs.map w32) ∧ (zs ≠ [] → g < W.heap.size) := by
  obtain ⟨g', t', cs, fuel, p, hg', hty', hv, hd⟩ := h
  obtain rfl := Option.some.inj (hg'.symm.trans hg)
  obtain rfl := Option.some.inj (hty'.symm.trans hty)
  have hcs := Lib.cells_of_tab ht Tryz.underlying29 (by kernel_rfl) hct hd
  have hcell : ∀ i, W.cell? ⟨g', i, none⟩ = (zs.map w32)[i]? := fun i => by
    rw [World.var?_cell hg hv i, ← Array.getElem?_toList, hcs, List.map_map]
    rfl
  refine ⟨fun j v hj => by rw [Nat.zero_add, hcell, hj], fun hne => ?_⟩
  cases zs with
  | nil => exact absurd rfl hne
  | cons z zs => exact World.block_lt_of_cell? W _ (hcell 0)
theorem tabs_of_laid {W : World} (h : laidMetH Tryz.prog [("armarium/crc.halves", Rows.laid_armarium_crc_halves), ("armarium/sha.k", Rows.laid_armarium_sha_k), ("armarium/sha.first", Rows.laid_armarium_sha_first)] W) : Tabs W := by
  have h1 : laidMet Tryz.prog [("armarium/crc.halves", Rows.laid_armarium_crc_halves), ("armarium/sha.k", Rows.laid_armarium_sha_k), ("armarium/sha.first", Rows.laid_armarium_sha_first)] W := (laidMetH_iff.1 h).1
  have r1 := Lib.laidMet.reads h1 (n := "armarium/crc.halves") (List.mem_cons_self ..)
  have r2 := Lib.laidMet.reads h1 (n := "armarium/sha.k") (List.mem_cons_of_mem _ (List.mem_cons_self ..))
  have r3 := Lib.laidMet.reads h1 (n := "armarium/sha.first") (List.mem_cons_of_mem _ (List.mem_cons_of_mem _ (List.mem_cons_self ..)))
  have e1 : (Rows.laid_armarium_crc_halves : DataW Unit) = Lib.tabData .u32 (halves.map fun b => (b.toNat : Int)) := by kernel_rfl
  have e2 : (Rows.laid_armarium_sha_k : DataW Unit) = Lib.tabData .u32 (((List.range 64).map Kf).map fun b => (b.toNat : Int)) := by kernel_rfl
  have e3 : (Rows.laid_armarium_sha_first : DataW Unit) = Lib.tabData .u32 (H8.l.map fun b => (b.toNat : Int)) := by kernel_rfl
  rw [e1] at r1
  rw [e2] at r2
  rw [e3] at r3
  have t1 := tab_at (g := 1) (t := 123) (by kernel_rfl) (by kernel_rfl) Tryz.underlying123 (by kernel_rfl) r1
  have t2 := tab_at (g := 2) (t := 30) (by kernel_rfl) (by kernel_rfl) Tryz.underlying30 (by kernel_rfl) r2
  have t3 := tab_at (g := 0) (t := 104) (by kernel_rfl) (by kernel_rfl) Tryz.underlying104 (by kernel_rfl) r3
  refine ⟨t3.1, t1.1, ?_, fun k hk => Nat.lt_of_le_of_lt (show k ≤ 2 from Nat.le_of_lt_succ hk) (t2.2 (by decide))⟩
  have := t2.1
  rwa [List.map_map] at this
theorem own : ownKnob Tryz.prog.godebug = none := by kernel_rfl
theorem laidOut : laidOutB Tryz.prog = true := by kernel_rfl
end Go.Proofs.YtdkonngkbbgcgaaGreatDoor
