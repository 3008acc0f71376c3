/- What the cards of layer 8 share: acts that came in; the tables as they are laid; what reads behind a call. -/
import Derived.Test.YtplhamichcnmmaaGreatDoorHc47
import Derived.Test.YtplhamichcnmmaaGreatDoorCards
import Derived.Test.YtplhamichcnmmaaGreatDoorTie
import Derived.WalkKit
import Derived.ProofKit
import Derived.OpenShut
import Derived.Below
import Derived.Carry
import Derived.SliceStrings
import Derived.ChangeMaps5
import Derived.Deep.DeepHandedRow
import Derived.Lay
import Derived.LaidMore
import Derived.LaidSub
import Derived.Lib.LaidU8
namespace Go.Proofs.YtplhamichcnmmaaGreatDoor
open Go.ChangeShapes Go.ChangeMaps Go.WideShapes Go.ChangeAt Go.RowKit Go.Eng Go.Proofs.YtplhamichcnmmaaGreatDoor
set_option maxRecDepth 100000
theorem tr_struct4 {P : Program} {W : World} {base : Nat} {sp : Nat → Bool} {held : Bool} {H : Type} {enc : TypeId × Value → H} {t : TypeId} {f0 f1 f2 f3 : Field} {fuel : Nat} {cs : List Value} {x : DataW H × List MemPlace} (ht : P.underlying t = some (.struct #[f0, f1, f2, f3])) (h : DataW.trod enc P W base sp held fuel t cs = some x) :
    ∃ y0 y1 y2 y3 n, cs.length = P.cellsOf t ∧ DataW.trod enc P W base sp held n f0.type ((cs.drop f0.offset).take (P.cellsOf f0.type)) = some y0 ∧ DataW.trod enc P W base sp held n f1.type ((cs.drop f1.offset).take (P.cellsOf f1.type)) = some y1 ∧
      DataW.trod enc P W base sp held n f2.type ((cs.drop f2.offset).take (P.cellsOf f2.type)) = some y2 ∧ DataW.trod enc P W base sp held n f3.type ((cs.drop f3.offset).take (P.cellsOf f3.type)) = some y3 := by
  obtain ⟨xs, n, _, rfl, hl, hlen, hf⟩ := DataW.trod_struct ht h
  match xs, hlen with
  | [y0, y1, y2, y3], _ => exact ⟨y0, y1, y2, y3, n, hl, by simpa using hf 0 f0 rfl, by simpa using hf 1 f1 rfl, by simpa using hf 2 f2 rfl, by simpa using hf 3 f3 rfl⟩
def AcT.Ok (a : AcT) : Prop := a.k < 256 ∧ -9223372036854775808 ≤ a.N ∧ a.N < 9223372036854775808 ∧ a.keep.length ≤ 9223372036854775807
theorem act_of_trod {W : World} {sp : Nat → Bool} {held : Bool} {H : Type} {enc : TypeId × Value → H} {cs : List Value} {y : DataW H × List MemPlace} {n : Nat} (h : DataW.trod enc Tryz.prog W 0 sp held n 30 cs = some y) : ∃ e : AcT, cs = e.vs ∧ e.Ok := by
  obtain ⟨y0, y1, y2, y3, m, hl, t0, t1, t2, t3⟩ := tr_struct4 Tryz.underlying30 h
  have hl4 : cs.length = 4 := hl.trans (by kernel_rfl)
  match cs, hl4 with
  | [a, b, c, d], _ =>
    obtain ⟨k, hk, -, wk⟩ := DataW.trod_int Tryz.underlying5 t0
    obtain ⟨N, hN, -, wN⟩ := DataW.trod_int Tryz.underlying3 t1
    obtain ⟨q, hq, -, wq⟩ := DataW.trod_int Tryz.underlying5 t2
    obtain ⟨s, hs, -, ws⟩ := DataW.trod_string Tryz.underlying9 t3
    have hk' : (([a, b, c, d] : List Value).drop 0).take (Tryz.prog.cellsOf 5) = [.int .u8 k] := hk
    have hN' : (([a, b, c, d] : List Value).drop 1).take (Tryz.prog.cellsOf 3) = [.int .i64 N] := hN
    have hq' : (([a, b, c, d] : List Value).drop 2).take (Tryz.prog.cellsOf 5) = [.int .u8 q] := hq
    have hs' : (([a, b, c, d] : List Value).drop 3).take (Tryz.prog.cellsOf 9) = [.string s] := hs
    rw [show Tryz.prog.cellsOf 5 = 1 by kernel_rfl] at hk' hq'
    rw [show Tryz.prog.cellsOf 3 = 1 by kernel_rfl] at hN'
    rw [show Tryz.prog.cellsOf 9 = 1 by kernel_rfl] at hs'
    simp at hk' hN' hq' hs'
    have vk : 0 ≤ k ∧ k ≤ 255 := by simpa [Lit.wf, IntKind.min, IntKind.max, IntKind.bits, IntKind.signed] using wk
    have vq : 0 ≤ q ∧ q ≤ 255 := by simpa [Lit.wf, IntKind.min, IntKind.max, IntKind.bits, IntKind.signed] using wq
    have vN : -9223372036854775808 ≤ N ∧ N ≤ 9223372036854775807 := by simpa [Lit.wf, IntKind.min, IntKind.max, IntKind.bits, IntKind.signed] using wN
    have hqq : ((UInt8.ofNat q.toNat).toNat : Int) = q := by
      have : (UInt8.ofNat q.toNat).toNat = q.toNat := by simp; omega
      rw [this]; omega
    refine ⟨⟨k.toNat, N, UInt8.ofNat q.toNat, s.data.toList⟩, ?_, ?_, vN.1, by show N < _; omega, ?_⟩
    · show _ = [Value.int .u8 (k.toNat : Int), .int .i64 N, .int .u8 ((UInt8.ofNat q.toNat).toNat : Int), .string ⟨s.data.toList.toArray⟩]
      rw [hk', hN', hq', hs', hqq, show ((k.toNat : Nat) : Int) = k by omega]
    · show k.toNat < 256; omega
    · show s.data.toList.length ≤ _
      rw [Array.length_toList]
      exact ws
theorem addr_spot {W : World} {a : Addr} {v : Value} (h : W.cell? a = some v) : a.spot = none := by
  unfold World.cell? at h
  split at h
  · split at h
    · cases h
    · rename_i hh
      simpa using hh
  · cases h
theorem actL {W : World} {a0 : Option Addr} {len0 cap0 : Nat} {H : Type} {enc : TypeId × Value → H} {x : DataW H × List MemPlace} {fuel : Nat}
    (hf : DataW.trod enc Tryz.prog W 0 (fun _ => true) true fuel 22 (Value.slice a0 len0 cap0).cells.toList = some x) : ∃ L : List AcT, L.length = len0 ∧ len0 ≤ 9223372036854775807 ∧ Rd W a0 (rowsV AcT.vs L) ∧ ∀ e ∈ L, e.Ok := by
  rcases Go.Deep.open_slice Tryz.underlying22 hf with ⟨hcs, _⟩ | ⟨a, len, cap, m, n, D, Pl, hcs, hb, hl, hm, hmm, hx, hel⟩
  · simp [Value.cells] at hcs
    obtain ⟨rfl, rfl, rfl⟩ := hcs
    exact ⟨[], rfl, by decide, .inl rfl, fun _ h => nomatch h⟩
  · simp [Value.cells] at hcs
    obtain ⟨rfl, rfl, rfl⟩ := hcs
    simp only [if_true] at hmm
    rw [show Tryz.prog.cellsOf 30 = 4 by kernel_rfl] at hel
    have h1 : ∀ i, i < len0 → ∃ e : AcT, W.cells? 0 (a.add (i * 4)) 4 = some e.vs ∧ e.Ok := fun i hi => by
      obtain ⟨cs, c1, c2⟩ := hel i (by omega)
      obtain ⟨e, rfl, he⟩ := act_of_trod c2
      exact ⟨e, c1, he⟩
    obtain ⟨f, hfe⟩ : ∃ f : Nat → AcT, ∀ i, i < len0 → W.cells? 0 (a.add (i * 4)) 4 = some (f i).vs ∧ (f i).Ok := by
      classical
      exact ⟨fun i => if h : i < len0 then Classical.choose (h1 i h) else ⟨0, 0, 0, []⟩, fun i hi => by simp only [dif_pos hi]; exact Classical.choose_spec (h1 i hi)⟩
    refine ⟨(List.range len0).map f, by simp, by have hm' : cap0 ≤ 9223372036854775807 := hm; have := hl; omega, ?_, fun e he => by obtain ⟨i, hi, rfl⟩ := List.mem_map.1 he; exact (hfe i (List.mem_range.1 hi)).2⟩
    rcases Nat.eq_zero_or_pos len0 with h0 | h0
    · subst h0; exact .inl rfl
    have hcell : ∀ i, i < len0 → ∀ j v, (f i).vs[j]? = some v → W.cell? ((a.add (i * 4)).add j) = some v := fun i hi j v hv => by
      have hj : j < 4 := (List.getElem?_eq_some_iff.1 hv).1
      rw [(World.cells?_some (hfe i hi).1).2.2 j hj, hv]
    have hsp : a.spot = none := by
      have := hcell 0 h0 0 _ rfl
      simp only [Nat.zero_mul] at this
      exact addr_spot (by simpa [Addr.add] using this)
    obtain ⟨ab, ao, asp⟩ := a
    simp only at hsp
    subst hsp
    refine .inr ⟨ab, ao, rfl, fun k u hu => ?_⟩
    have hk : k < len0 * 4 := by
      have := (List.getElem?_eq_some_iff.1 hu).1
      rw [rowsV_length AcT.sz] at this
      simpa using this
    have hdm : k = (k / 4) * 4 + k % 4 := by omega
    have hi : k / 4 < len0 := by omega
    rw [hdm, rowsV_at AcT.sz (by simpa using hi) (by omega)] at hu
    simp only [List.getElem_map, List.getElem_range] at hu
    have := hcell _ hi _ _ hu
    rw [add_at, add_at] at this
    rw [hdm, ← Nat.add_assoc]
    exact this
theorem tabO {W : World} {n : String} {g t e : Nat} {sz : Nat} {k : IntKind} {zs : List Int} (hg : Tryz.prog.globalNamed n = some g) (hty : (Tryz.prog.globals[g]?).map (·.type) = some t) (ht : Tryz.prog.underlying t = some (.array sz e)) (he : Tryz.prog.underlying e = some (.int k)) (hce : Tryz.prog.cellsOf e = 1) (hct : Tryz.prog.cellsOf t = sz)
    (hlt : g < Tryz.prog.globals.size) (hrow : (((begin Tryz.prog (fun _ _ => 0) default).world.heap[g]?).bind Obj.row?).map (·.2) = some t) (hS : W.ShapedOpen Tryz.prog) (h : Lib.VarReads Tryz.prog W n (Lib.tabData k zs)) : W.heap[g]? = some (.cells (zs.map fun z => Value.int k z).toArray t (0, 0)) := by
  obtain ⟨g', t', cs, fuel, p, hg', hty', hv, hd⟩ := h
  obtain rfl := Option.some.inj (hg'.symm.trans hg)
  obtain rfl := Option.some.inj (hty'.symm.trans hty)
  have hcs := Lib.cells_of_tab ht he hce hct hd
  obtain ⟨⟨zero, t2⟩, hz, rfl⟩ := Option.map_eq_some_iff.1 hrow
  obtain ⟨cs2, h2, -, -⟩ := hS.1 g' zero t2 hlt hz
  have hv2 : W.var? Tryz.prog n = some cs2 := by
    unfold World.var?
    rw [hg']
    show (match W.heap[g']? with | some (.cells cs _ _) => some cs | _ => none) = _
    rw [h2]
  obtain rfl := Option.some.inj (hv.symm.trans hv2)
  rw [h2]
  show some (Obj.cells cs t2 (0, 0)) = _
  rw [← hcs]
theorem tabs8 {W : World} (hS : W.ShapedOpen Tryz.prog) (h : laidMetH Tryz.prog [("armarium/crc.halves", Rows.laid_armarium_crc_halves), ("math/bits.deBruijn64tab", Rows.laid_math_bits_deBruijn64tab)] W) : CTab W ∧ TabW W := by
  have h1 : laidMet Tryz.prog [("armarium/crc.halves", Rows.laid_armarium_crc_halves), ("math/bits.deBruijn64tab", Rows.laid_math_bits_deBruijn64tab)] W := (laidMetH_iff.1 h).1
  have r1 := Lib.laidMet.reads h1 (n := "armarium/crc.halves") (List.mem_cons_self ..)
  have r2 := Lib.laidMet.reads h1 (n := "math/bits.deBruijn64tab") (List.mem_cons_of_mem _ (List.mem_cons_self ..))
  have e1 : (Rows.laid_armarium_crc_halves : DataW Unit) = Lib.tabData .u32 (halves.map fun b => (b.toNat : Int)) := by kernel_rfl
  have e2 : (Rows.laid_math_bits_deBruijn64tab : DataW Unit) = Lib.tabData .u8 (Bm.tab64.map fun n : Nat => (n : Int)) := by kernel_rfl
  rw [e1] at r1
  rw [e2] at r2
  have t1 := tabO (g := 1) (t := 200) (by kernel_rfl) (by kernel_rfl) Tryz.underlying200 Tryz.underlying186 (by kernel_rfl) (by kernel_rfl) (of_decide_eq_true (by kernel_rfl)) (by kernel_rfl) hS r1
  have t2 := tabO (g := 0) (t := 180) (by kernel_rfl) (by kernel_rfl) Tryz.underlying180 Tryz.underlying5 (by kernel_rfl) (by kernel_rfl) (of_decide_eq_true (by kernel_rfl)) (by kernel_rfl) hS r2
  rw [List.map_map] at t1 t2
  exact ⟨⟨t1⟩, ⟨t2⟩⟩
theorem ct_tz_here {W : World} (h : CTab W ∧ TabW W) : ∀ it ∈ [ctI, tzI], Here it W := by
  intro it hm
  rcases hm with _ | ⟨_, _ | ⟨_, hm⟩⟩
  · exact ⟨h.1, ctI_stable _, fun k hk => by have hk : k = _ := hk; rw [hk]; exact (Array.getElem?_eq_some_iff.1 h.1.obj).1⟩
  · exact ⟨h.2, tzI_stable _, fun k hk => by have hk : k = _ := hk; rw [hk]; exact (Array.getElem?_eq_some_iff.1 h.2.obj).1⟩
  · cases hm
theorem ct_tz_apart : [ctI, tzI].Pairwise Eng.Item.Apart := by
  refine List.pairwise_cons.2 ⟨fun y hy k h1 h2 => ?_, List.pairwise_cons.2 ⟨fun _ h => (nomatch h), .nil⟩⟩
  rcases hy with _ | ⟨_, hy⟩
  · have h1 : k = 1 := h1
    have h2 : k = 0 := h2
    rw [h1] at h2
    exact absurd h2 (by decide)
  · cases hy
theorem below8 {W W' : World} (hT : CTab W ∧ TabW W) (h : Its (foots [ctI, tzI]) W [ctI, tzI] W') : Below W.heap.size W W' := by
  refine ⟨h.fr.os, h.fr.tape, h.fr.output, h.fr.size, fun k hk => ?_⟩
  by_cases h1 : k = 1
  · rw [h1, hT.1.obj]
    exact ((h.item ctI (.head _)).1 : CTab W').obj
  by_cases h2 : k = 0
  · rw [h2, hT.2.obj]
    exact ((h.item tzI (.tail _ (.head _))).1 : TabW W').obj
  · refine h.fr.block k hk ?_
    rintro ⟨it, hm, hf⟩
    rcases hm with _ | ⟨_, _ | ⟨_, hm⟩⟩
    · exact h1 hf
    · exact h2 hf
    · cases hm
theorem act_apart {W : World} (hT : CTab W ∧ TabW W) {L : List AcT} {a : Option Addr} (hr : Rd W a (rowsV AcT.vs L)) : ∀ b off, a = some ⟨b, off, none⟩ → L ≠ [] → ¬ foots [ctI, tzI] b := by
  intro b off he hL
  have hl : 0 < L.length := List.length_pos_iff.2 hL
  obtain ⟨b', off', he', hrow⟩ := act_row hr hl
  rw [he] at he'
  cases he'
  have c0 := hrow 0 _ rfl
  have c1 := hrow 1 _ rfl
  rintro ⟨it, hm, hf⟩
  rcases hm with _ | ⟨_, _ | ⟨_, hm⟩⟩
  · have hf : b = _ := hf
    subst hf
    unfold World.cell? at c0
    simp only [hT.1.obj] at c0
    simp at c0
  · have hf : b = _ := hf
    subst hf
    unfold World.cell? at c1
    simp only [hT.2.obj] at c1
    simp at c1
  · cases hm
theorem own : ownKnob Tryz.prog.godebug = none := by kernel_rfl
theorem laidOut : laidOutB Tryz.prog = true := by kernel_rfl
end Go.Proofs.YtplhamichcnmmaaGreatDoor
