/- What the cards of layer 10 share: acts that came in; the tables as they are laid; what reads behind a call. -/
import Derived.Test.YtkkfifhaobjicaaGreatDoorHc14
import Derived.Test.YtkkfifhaobjicaaGreatDoorCards
import Derived.Test.YtkkfifhaobjicaaGreatDoorTie
import Derived.WalkKit
import Derived.ProofKit
import Derived.OpenShut
import Derived.Below
import Derived.Carry
import Derived.SliceStrings
import Derived.ChangeMaps5
import Derived.Deep.DeepHandedRow
import Derived.Lay
import Derived.LaidMore
import Derived.LaidSub
import Derived.Lib.LaidU8
namespace Go.Proofs.YtkkfifhaobjicaaGreatDoor
open Go.ChangeShapes Go.ChangeMaps Go.WideShapes Go.ChangeAt Go.RowKit Go.Eng Go.Proofs.YtkkfifhaobjicaaGreatDoor
set_option maxRecDepth 100000
theorem qdp {P : Program} {W : World} {base : Nat} {sp : Nat → Bool} {held : Bool} {H : Type} {enc : TypeId × Value → H} {t : TypeId} {f0 f1 f2 : Field} {fuel : Nat} {cs : List Value} {x : DataW H × List MemPlace} (ht : P.underlying t = some (.struct #[f0, f1, f2])) (h : DataW.trod enc P W base sp held fuel t cs = some x) :
  ∃ y0 y1 y2 n, cs.length = P.cellsOf t ∧ DataW.trod enc P W base sp held n f0.type ((cs.drop f0.offset).take (P.cellsOf f0.type)) = some y0 ∧ DataW.trod enc P W base sp held n f1.type ((cs.drop f1.offset).take (P.cellsOf f1.type)) = some y1 ∧
   DataW.trod enc P W base sp held n f2.type ((cs.drop f2.offset).take (P.cellsOf f2.type)) = some y2 := by
 obtain ⟨xs, n, _, rfl, hl, hlen, hf⟩ := DataW.trod_struct ht h
 match xs, hlen with
 | [y0, y1, y2], _ => exact ⟨y0, y1, y2, n, hl, by simpa using hf 0 f0 rfl, by simpa using hf 1 f1 rfl, by simpa using hf 2 f2 rfl⟩
theorem zxk {W : World} {sp : Nat → Bool} {held : Bool} {H : Type} {enc : TypeId × Value → H} {cs : List Value} {y : DataW H × List MemPlace} {n : Nat} (h : DataW.trod enc Tryz.prog W 0 sp held n 31 cs = some y) : ∃ e : A10, cs = e.vs ∧ e.Ok := by
 obtain ⟨y0, y1, y2, m, hl, t0, t1, t2⟩ := qdp Tryz.underlying31 h
 have hl3 : cs.length = 3 := hl.trans kQ
 match cs, hl3 with
 | [a, b, c], _ =>
  obtain ⟨d, hd, -, wd⟩ := DataW.trod_int Tryz.underlying5 t0
  obtain ⟨k, hk, -, wk⟩ := DataW.trod_int Tryz.underlying29 t1
  obtain ⟨v, hv, -, wv⟩ := DataW.trod_int Tryz.underlying29 t2
  have hd' : (([a, b, c] : List Value).drop 0).take (Tryz.prog.cellsOf 5) = [.int .u8 d] := hd
  have hk' : (([a, b, c] : List Value).drop 1).take (Tryz.prog.cellsOf 29) = [.int .u16 k] := hk
  have hv' : (([a, b, c] : List Value).drop 2).take (Tryz.prog.cellsOf 29) = [.int .u16 v] := hv
  rw [show Tryz.prog.cellsOf 5 = 1 by kernel_rfl] at hd'
  rw [show Tryz.prog.cellsOf 29 = 1 by kernel_rfl] at hk' hv'
  simp at hd' hk' hv'
  have vd : 0 ≤ d ∧ d ≤ 255 := by simpa [Lit.wf, IntKind.min, IntKind.max, IntKind.bits, IntKind.signed] using wd
  have vk : 0 ≤ k ∧ k ≤ 65535 := by simpa [Lit.wf, IntKind.min, IntKind.max, IntKind.bits, IntKind.signed] using wk
  have vv : 0 ≤ v ∧ v ≤ 65535 := by simpa [Lit.wf, IntKind.min, IntKind.max, IntKind.bits, IntKind.signed] using wv
  refine ⟨⟨d.toNat, k.toNat, v.toNat⟩, ?_, ⟨by show d.toNat < 256; omega, by show k.toNat < 65536; omega, by show v.toNat < 65536; omega⟩⟩
  show _ = [Value.int .u8 (d.toNat : Int), .int .u16 (k.toNat : Int), .int .u16 (v.toNat : Int)]
  rw [hd', hk', hv', show ((d.toNat : Nat) : Int) = d by omega, show ((k.toNat : Nat) : Int) = k by omega, show ((v.toNat : Nat) : Int) = v by omega]
theorem qd9 {W : World} {a : Addr} {v : Value} (h : W.cell? a = some v) : a.spot = none := by
 unfold World.cell? at h
 split at h
 ·split at h
  ·cases h
  ·rename_i hh
   simpa using hh
 ·cases h
theorem qsh {W : World} {a0 : Option Addr} {len0 cap0 : Nat} {H : Type} {enc : TypeId × Value → H} {x : DataW H × List MemPlace} {fuel : Nat}
  (hf : DataW.trod enc Tryz.prog W 0 (fun _ => true) true fuel 22 (Value.slice a0 len0 cap0).cells.toList = some x) : ∃ L : List A10, L.length = len0 ∧ len0 ≤ 9223372036854775807 ∧ Rd W a0 (zc4 A10.vs L) ∧ ∀ e ∈ L, e.Ok := by
 rcases Go.Deep.open_slice Tryz.underlying22 hf with ⟨hcs, _⟩ | ⟨a, len, cap, m, n, D, Pl, hcs, hb, hl, hm, hmm, hx, hel⟩
 ·simp [Value.cells] at hcs
  obtain ⟨rfl, rfl, rfl⟩ := hcs
  exact ⟨[], rfl, dQ, .inl rfl, fun _ h => nomatch h⟩
 ·simp [Value.cells] at hcs
  obtain ⟨rfl, rfl, rfl⟩ := hcs
  simp only [if_true] at hmm
  rw [show Tryz.prog.cellsOf 31 = 3 by kernel_rfl] at hel
  have h1 : ∀ i, i < len0 → ∃ e : A10, W.cells? 0 (a.add (i * 3)) 3 = some e.vs ∧ e.Ok := fun i hi => by
   obtain ⟨cs, c1, c2⟩ := hel i oQ
   obtain ⟨e, rfl, he⟩ := zxk c2
   exact ⟨e, c1, he⟩
  obtain ⟨f, hfe⟩ : ∃ f : Nat → A10, ∀ i, i < len0 → W.cells? 0 (a.add (i * 3)) 3 = some (f i).vs ∧ (f i).Ok := by
   classical
   exact ⟨fun i => if h : i < len0 then Classical.choose (h1 i h) else ⟨0, 0, 0⟩, fun i hi => by simp only [dif_pos hi]; exact Classical.choose_spec (h1 i hi)⟩
  refine ⟨(List.range len0).map f, by simp, by have hm' : cap0 ≤ 9223372036854775807 := hm; have := hl; omega, ?_, fun e he => by obtain ⟨i, hi, rfl⟩ := aT.1 he; exact (hfe i (dN.1 hi)).2⟩
  rcases eS len0 with h0 | h0
  ·subst h0; exact .inl rfl
  have hcell : ∀ i, i < len0 → ∀ j v, (f i).vs[j]? = some v → W.cell? ((a.add (i * 3)).add j) = some v := fun i hi j v hv => by
   have hj : j < 3 := (aM.1 hv).1
   rw [(World.cells?_some (hfe i hi).1).2.2 j hj, hv]
  have hsp : a.spot = none := by
   have := hcell 0 h0 0 _ rfl
   simp only [kM] at this
   exact qd9 (by simpa [Addr.add] using this)
  obtain ⟨ab, ao, asp⟩ := a
  simp only at hsp
  subst hsp
  refine .inr ⟨ab, ao, rfl, fun k u hu => ?_⟩
  have hk : k < len0 * 3 := by
   have := (aM.1 hu).1
   rw [znn A10.sz] at this
   simpa using this
  have hdm : k = (k / 3) * 3 + k % 3 := oQ
  have hi : k / 3 < len0 := oQ
  rw [hdm, qa1 A10.sz (by simpa using hi) oQ] at hu
  simp only [cW, List.getElem_range] at hu
  have := hcell _ hi _ _ hu
  rw [zc9, zc9] at this
  rw [hdm, ← eH]
  exact this
theorem qse {W : World} {n : String} {g t e : Nat} {sz : Nat} {k : IntKind} {zs : List Int} (hg : Tryz.prog.globalNamed n = some g) (hty : (Tryz.prog.globals[g]?).map (·.type) = some t) (ht : Tryz.prog.underlying t = some (.array sz e)) (he : Tryz.prog.underlying e = some (.int k)) (hce : Tryz.prog.cellsOf e = 1) (hct : Tryz.prog.cellsOf t = sz)
  (hlt : g < Tryz.prog.globals.size) (hrow : (((begin Tryz.prog (fun _ _ => 0) default).world.heap[g]?).bind Obj.row?).map (·.2) = some t) (hS : W.ShapedOpen Tryz.prog) (h : Lib.VarReads Tryz.prog W n (Lib.tabData k zs)) : W.heap[g]? = some (.cells (zs.map fun z => Value.int k z).toArray t (0, 0)) := by
 obtain ⟨g', t', cs, fuel, p, hg', hty', hv, hd⟩ := h
 obtain rfl := cJ (hg'.symm.trans hg)
 obtain rfl := cJ (hty'.symm.trans hty)
 have hcs := Lib.cells_of_tab ht he hce hct hd
 obtain ⟨⟨zero, t2⟩, hz, rfl⟩ := Option.map_eq_some_iff.1 hrow
 obtain ⟨cs2, h2, -, -⟩ := hS.1 g' zero t2 hlt hz
 have hv2 : W.var? Tryz.prog n = some cs2 := by
  unfold World.var?
  rw [hg']
  show (match W.heap[g']? with | some (.cells cs _ _) => some cs | _ => none) = _
  rw [h2]
 obtain rfl := cJ (hv.symm.trans hv2)
 rw [h2]
 show some (Obj.cells cs t2 (0, 0)) = _
 rw [← hcs]
theorem qrr {W : World} (hS : W.ShapedOpen Tryz.prog) (h : laidMetH Tryz.prog [("armarium/crc.halves", Rows.laid_armarium_crc_halves), ("math/bits.deBruijn64tab", Rows.laid_math_bits_deBruijn64tab)] W) : zqz W ∧ qb1 W := by
 have h1 : laidMet Tryz.prog [("armarium/crc.halves", Rows.laid_armarium_crc_halves), ("math/bits.deBruijn64tab", Rows.laid_math_bits_deBruijn64tab)] W := (laidMetH_iff.1 h).1
 have r1 := Lib.laidMet.reads h1 (n := "armarium/crc.halves") (fQ ..)
 have r2 := Lib.laidMet.reads h1 (n := "math/bits.deBruijn64tab") (List.mem_cons_of_mem _ (fQ ..))
 have e1 : (Rows.laid_armarium_crc_halves : DataW Unit) = Lib.tabData .u32 (halves.map fun b => (b.toNat : Int)) := by kernel_rfl
 have e2 : (Rows.laid_math_bits_deBruijn64tab : DataW Unit) = Lib.tabData .u8 (Bm.tab64.map fun n : Nat => (n : Int)) := by kernel_rfl
 rw [e1] at r1
 rw [e2] at r2
 have t1 := qse (g := 1) (t := 265) kQ kQ Tryz.underlying265 Tryz.underlying249 kQ kQ (of_decide_eq_true kQ) kQ hS r1
 have t2 := qse (g := 0) (t := 173) kQ kQ Tryz.underlying173 Tryz.underlying5 kQ kQ (of_decide_eq_true kQ) kQ hS r2
 rw [dR] at t1 t2
 exact ⟨⟨t1⟩, ⟨t2⟩⟩
theorem qb9 {W : World} (h : zqz W ∧ qb1 W) : ∀ it ∈ [ctI, tzI], za1 it W := by
 intro it hm
 rcases hm with _ | ⟨_, _ | ⟨_, hm⟩⟩
 ·exact ⟨h.1, zc0 _, fun k hk => by have hk : k = _ := hk; rw [hk]; exact (bC.1 h.1.obj).1⟩
 ·exact ⟨h.2, zjz _, fun k hk => by have hk : k = _ := hk; rw [hk]; exact (bC.1 h.2.obj).1⟩
 ·cases hm
theorem zxv : [ctI, tzI].Pairwise Eng.Item.Apart := by
 refine bL.2 ⟨fun y hy k h1 h2 => ?_, bL.2 ⟨fun _ h => (nomatch h), .nil⟩⟩
 rcases hy with _ | ⟨_, hy⟩
 ·have h1 : k = 1 := h1
  have h2 : k = 0 := h2
  rw [h1] at h2
  exact absurd h2 dQ
 ·cases hy
theorem qon {W W' : World} (hT : zqz W ∧ qb1 W) (h : Its (zan [ctI, tzI]) W [ctI, tzI] W') : Below W.heap.size W W' := by
 refine ⟨h.fr.os, h.fr.tape, h.fr.output, h.fr.size, fun k hk => ?_⟩
 by_cases h1 : k = 1
 ·rw [h1, hT.1.obj]
  exact ((h.item ctI (.head _)).1 : zqz W').obj
 by_cases h2 : k = 0
 ·rw [h2, hT.2.obj]
  exact ((h.item tzI (.tail _ (.head _))).1 : qb1 W').obj
 ·refine h.fr.block k hk ?_
  rintro ⟨it, hm, hf⟩
  rcases hm with _ | ⟨_, _ | ⟨_, hm⟩⟩
  ·exact h1 hf
  ·exact h2 hf
  ·cases hm
theorem qd8 {W : World} (hT : zqz W ∧ qb1 W) {L : List A10} {a : Option Addr} (hr : Rd W a (zc4 A10.vs L)) : ∀ b off, a = some ⟨b, off, none⟩ → L ≠ [] → ¬ zan [ctI, tzI] b := by
 intro b off he hL
 have hl : 0 < L.length := jI.2 hL
 obtain ⟨b', off', he', hrow⟩ := qd7 hr hl
 rw [he] at he'
 cases he'
 have c0 := hrow 0 _ rfl
 have c1 := hrow 1 _ rfl
 rintro ⟨it, hm, hf⟩
 rcases hm with _ | ⟨_, _ | ⟨_, hm⟩⟩
 ·have hf : b = _ := hf
  subst hf
  unfold World.cell? at c0
  simp only [hT.1.obj] at c0
  simp at c0
 ·have hf : b = _ := hf
  subst hf
  unfold World.cell? at c1
  simp only [hT.2.obj] at c1
  simp at c1
 ·cases hm
theorem own : ownKnob Tryz.prog.godebug = none := by kernel_rfl
theorem qmk : laidOutB Tryz.prog = true := by kernel_rfl
end Go.Proofs.YtkkfifhaobjicaaGreatDoor
