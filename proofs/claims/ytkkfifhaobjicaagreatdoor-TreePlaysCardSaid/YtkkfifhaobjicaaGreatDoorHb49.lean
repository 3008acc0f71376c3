/- law 10: wakes; the play. Own work; no condition. -/
/- law 10: TreePlays. Own work; no condition. -/
/- What the cards of layer 10 share: acts that came in; the tables as they are laid; what reads behind a call. -/
import Derived.Test.YtkkfifhaobjicaaGreatDoorHb48
import Derived.Test.YtkkfifhaobjicaaGreatDoorCards
import Derived.Test.YtkkfifhaobjicaaGreatDoorTie
import Derived.WalkKit
import Derived.ProofKit
import Derived.OpenShut
import Derived.Below
import Derived.Carry
import Derived.SliceStrings
import Derived.ChangeMaps5
import Derived.Deep.DeepHandedRow
import Derived.Lay
import Derived.LaidMore
import Derived.LaidSub
import Derived.Lib.LaidU8
namespace Go.Proofs.YtkkfifhaobjicaaGreatDoor
open Go.RowKit Go.Eng Go.Eng.Bm Go.Eng.Tr
set_option maxRecDepth 100000
set_option maxHeartbeats 40000000
theorem qb0 {h : Nat} (t : T (h + 1)) (h2 : 2 ≤ sz t) : 3 ≤ (pgs t).length := by
 obtain ⟨p, ks, kids⟩ := t
 have h2 : 2 ≤ kids.length := h2
 show 3 ≤ (p :: kids.flatMap pgs).length
 rw [List.length_cons, zk2]
 have := zp5 kids (fun _ => 0) (fun x => (pgs x).length) 1 fun x _ => List.length_pos_of_mem (zcb x)
 omega
theorem qo1 {r : Rt} (hr : qcn (za5 0) r) (he : (zbr r).length = 14) : (zm4 r).length = 3 := by
 have hf := (qfj (zew 0) r hr).1
 rw [he] at hf
 match r, hr, he, hf with
 | none, _, he, _ => cases he
 | some ⟨0, t⟩, hr, he, _ =>
  have h1 : (t.2 : E).length ≤ 13 := TOk.le hr
  have h2 : (t.2 : E).length = 14 := he
  omega
 | some ⟨h + 1, t⟩, hr, he, hf =>
  have h1 := qb0 t (TOk.two hr (Nat.succ_pos _))
  have hf : 3 * (pgs t).length ≤ 4 * (14 / 6) + 1 + (if (pgs t).length = 1 then 3 else 0) := hf
  rw [if_neg (by omega)] at hf
  show (pgs t).length = 3
  omega
def qmx : Nat → E
 | 0 => []
 | i + 1 => zfl (qmx i) (zik i 33) (zik 1 4)
theorem zz6 : ∀ i, (qmx i).length ≤ i
 | 0 => Nat.le_refl _
 | i + 1 => by have := zz6 i; have := zhu (e := qmx i) (k := zik i 33) (v := zik 1 4); unfold qmx; omega
theorem qk5 : (qmx 14).length = 14 := by decide +kernel
theorem qe2 {w w0 : World} {F : Nat → Prop} {c : Tc} {xb : Nat} {r : Rt} {s : Pg} {o : Om} (h : Hp w0 F (tsL c xb r s o ++ [ctI]) w) : Hp w0 F [ctI, tzI] w := by
 unfold tsL at h
 simp only [List.cons_append, List.nil_append] at h
 have h1 := zh1 (h.pick [1, 0, 2, 3, 4] rfl rfl)
 exact h1.pick [7, 3] rfl rfl
theorem zgh : ∀ it ∈ [ctI, tzI], it.Stable none' := by
 intro it hm
 rcases hm with _ | ⟨_, _ | ⟨_, hm⟩⟩
 ·exact zcz _
 ·exact zjk _
 ·cases hm
theorem zmy (w : World) (hw : ∀ it ∈ [ctI, tzI], za2 it w) (ha : [ctI, tzI].Pairwise Eng.Item.Apart) :
  Ct Tryz.prog 7 #[] w (zap [ctI, tzI]) (fun _ : Unit => .bool true) (fun _ => True) (fun _ => [ctI, tzI]) := by
 refine zbd [] _ Tryz.func7 rfl rfl hw ha ?_
 simp only [zaa]
 refine goA ?_
 refine zae rfl (zba (pre := [ctI, tzI]) rfl (by kernel_rfl) rfl (fun it hm => by
  rcases hm with _ | ⟨_, _ | ⟨_, hm⟩⟩
  ·exact zcz _
  ·exact zjk _
  ·cases hm) (fun w1 hw1 hh1 ha1 => zlg 0 (by decide) w1 hh1 ha1)) fun ⟨⟨c, xb, s, o⟩, g, h⟩ => ?_
 have h : zmm c 0 none g s := h
 simp only
 refine goA ?_
 refine zct (α := Nat × Rt × Pg × Om) (fun y => [(1, .pointer (some ⟨xb, 0, none⟩)), (3, .int .i64 (y.1 : Nat))]) (fun y => y.1 ≤ 14 ∧ (∃ g, zmm c 0 y.2.1 g y.2.2.1) ∧ zbr y.2.1 = qmx y.1) (fun y => tsL c xb y.2.1 y.2.2.1 y.2.2.2 ++ [ctI]) (fun y => 14 - y.1) (0, none, s, o) ⟨rfl, rfl, trivial⟩ ⟨Nat.zero_le _, ⟨g, h⟩, rfl⟩ (fun w' hw' => by rw [List.append_nil] at hw'; exact hw') fun ⟨i, r, s, o⟩ ⟨hi, ⟨g, h⟩, he⟩ => ?_
 simp only at hi h he ⊢
 have hle : (zbr r).length ≤ 14 := by rw [he]; exact Nat.le_trans (zz6 i) hi
 by_cases hlt : i < 14
 ·refine goA ?_
  refine zdc 20 _ (.agg #[.int .u8 ((3 : Nat) : Int), .int .u16 (i : Nat), .int .u16 ((1 : Nat) : Int)]) rfl rfl ?_
  refine zae rfl (zba (pre := tsL c xb r s o) rfl (by kernel_rfl) rfl (zdp c xb r s o) (fun w1 hw1 hh1 ha1 => zqc 0 (k0 := 14) xb o h (by decide) (fun _ => by decide) hle 3 i 1 (by omega) (by decide) w1 hh1 ha1)) fun ⟨⟨r', s', o'⟩, hg', he'⟩ => ?_
  simp only at hg' he' ⊢
  refine goA ?_
  exact zay (i + 1, r', s', o') ⟨rfl, rfl, trivial⟩ ⟨hlt, hg', by rw [he', he]; rfl⟩ (fun w' hw' => hw') (by simp only; omega)
 ·obtain rfl : i = 14 := by omega
  have hl14 : (zbr r).length = 14 := by rw [he]; exact qk5
  have hck := h.check (k0 := 14) (by decide) (fun _ => by decide) hle
  rw [hl14, qo1 h.rt hl14] at hck
  unfold tsL
  simp only [List.cons_append, List.nil_append]
  refine goA ?_
  refine za1 [1, 0, 2, 3, 4] rfl rfl ?_
  refine zae rfl (zba (pre := [tmI c (zgt r : Nat) s]) rfl (by kernel_rfl) rfl (zah c _ s) (fun w1 hw1 hh1 ha1 => qh0 h.tok _ hck (by decide) (by decide) w1 hh1)) fun ⟨s', hs'⟩ => ?_
  have hs' : Tok c g s' := hs'
  simp only [List.cons_append, List.nil_append]
  refine goA ?_
  refine za1 [1, 0, 2, 3, 4] rfl rfl ?_
  refine zae rfl (zba (pre := tsL c xb r s' o) rfl (by kernel_rfl) rfl (zdp c xb r s' o) (fun w1 hw1 hh1 ha1 => zo6 0 (k0 := 14) xb o (h.store hs') (by decide) (fun _ => by decide) hle w1 hh1 ha1)) fun ⟨s'', hs''⟩ => ?_
  simp only
  refine goA ?_
  exact zb3 (fun w' hw' => qe2 hw') (zbw () rfl rfl rfl trivial (.refl _) zgh)
structure A10 where
 d : Nat
 k : Nat
 v : Nat
def A10.vs (x : A10) : List Value := [.int .u8 x.d, .int .u16 x.k, .int .u16 x.v]
theorem A10.sz (x : A10) : x.vs.length = 3 := rfl
structure A10.Ok (x : A10) : Prop where
 d : x.d < 256
 k : x.k < 65536
 v : x.v < 65536
theorem qff {w : World} {L : List A10} {a : Option Addr} (h : Rd w a (zc3 A10.vs L)) {i : Nat} (hi : i < L.length) : ∃ b off, a = some ⟨b, off, none⟩ ∧ w.rangeAt b (off + i * 3) (L[i]'hi).vs := by
 obtain ⟨b, off, rfl, hrow⟩ := h.at_ (by intro h; have := congrArg List.length h; rw [zm9 A10.sz] at this; simp at this; omega)
 exact ⟨b, off, rfl, Rd.row A10.sz hrow hi⟩
theorem qi3 (d : Nat) (k v : K) (e : E) : (qpi d k v e).length ≤ e.length + 1 := by
 unfold qpi
 split
 ·have : (zcy e k).length ≤ e.length := List.length_filter_le _ _
  omega
 ·split
  ·omega
  ·exact zhu
theorem qgd {n k : Nat} (h : (decide (400 < k) || (decide (60 < k) && decide ((za5 n).cap < 6))) = false) : k ≤ 400 ∧ ((za5 n).cap < 6 → k ≤ 60) := by
 simp only [Bool.or_eq_false_iff, Bool.and_eq_false_iff, decide_eq_false_iff_not] at h
 omega
theorem zxu (n : Nat) (hn : n < 256) (L : List A10) (hok : ∀ x ∈ L, x.Ok) (a : Option Addr) (c : Nat) (w : World) (hr : Rd w a (zc3 A10.vs L)) (hap : ∀ b off, a = some ⟨b, off, none⟩ → L ≠ [] → ¬ zap [ctI, tzI] b) (hw : ∀ it ∈ [ctI, tzI], za2 it w) (ha : [ctI, tzI].Pairwise Eng.Item.Apart) :
  Ct Tryz.prog 3 #[.int .u8 (n : Int), .slice a L.length c] w (zap [ctI, tzI]) (fun _ : Unit => .bool true) (fun _ => True) (fun _ => [ctI, tzI]) := by
 refine zbd [_, _] _ Tryz.func3 rfl rfl hw ha ?_
 simp only [zaa, Nat.reduceAdd]
 refine goA ?_
 refine zae rfl (zag rfl (by kernel_rfl) rfl (fun w1 hw1 => zw8 n hn a L.length c w1)) fun _ => ?_
 refine goA ?_
 cases hgr : (decide (400 < L.length) || (decide (60 < L.length) && decide ((za5 n).cap < 6))) with
 | true =>
  refine goA ?_
  refine zae rfl (zba (pre := [ctI, tzI]) rfl (by kernel_rfl) rfl zgh (fun w1 hw1 hh1 ha1 => zmy w1 hh1 ha1)) fun ⟨_, _⟩ => ?_
  refine goA ?_
  exact zbw () rfl rfl rfl trivial (.refl _) zgh
 | false =>
  obtain ⟨hl, h6⟩ := qgd hgr
  refine goA ?_
  refine zae rfl (zba (pre := [ctI, tzI]) rfl (by kernel_rfl) rfl zgh (fun w1 hw1 hh1 ha1 => zlg n hn w1 hh1 ha1)) fun ⟨⟨cc, xb, s, o⟩, g, h⟩ => ?_
  have h : zmm cc n none g s := h
  simp only
  refine goA ?_
  refine zct (α := Nat × Rt × Pg × Om) (fun y => [(1, .slice a L.length c), (5, .pointer (some ⟨xb, 0, none⟩)), (7, .int .i64 (y.1 : Nat))]) (fun y => y.1 ≤ L.length ∧ (∃ g, zmm cc n y.2.1 g y.2.2.1) ∧ (zbr y.2.1).length ≤ y.1) (fun y => tsL cc xb y.2.1 y.2.2.1 y.2.2.2 ++ [ctI]) (fun y => L.length - y.1) (0, none, s, o) ⟨rfl, rfl, rfl, trivial⟩ ⟨Nat.zero_le _, ⟨g, h⟩, Nat.le_refl _⟩ (fun w' hw' => by rw [List.append_nil] at hw'; exact hw') fun ⟨i, r, s, o⟩ ⟨hi, ⟨g, h⟩, he⟩ => ?_
  simp only at hi h he ⊢
  by_cases hil : i < L.length
  ·obtain ⟨b, off, rfl, hri⟩ := qff hr hil
   have hF := hap b off rfl (fun h => by subst h; exact absurd hil (Nat.not_lt_zero _))
   obtain ⟨o1, o2, o3⟩ := hok _ (List.getElem_mem hil)
   generalize L[i] = t at hri o1 o2 o3
   refine goA ?_
   refine l_w rfl (zfi (xs := t.vs) (c := #[.int .u8 t.d, .int .u16 t.k, .int .u16 t.v]) rfl rfl (fun w' hw' => zbg hri hF hw') rfl) ?_
   refine zae rfl (zba (pre := tsL cc xb r s o) rfl (by kernel_rfl) rfl (zdp cc xb r s o) (fun w1 hw1 hh1 ha1 => zqc n (k0 := L.length) xb o h hl h6 (by omega) t.d t.k t.v o2 o3 w1 hh1 ha1)) fun ⟨⟨r', s', o'⟩, hg', he'⟩ => ?_
   simp only at hg' he' ⊢
   refine goA ?_
   exact zay (i + 1, r', s', o') ⟨rfl, rfl, rfl, trivial⟩ ⟨hil, hg', by have := qi3 t.d (zik t.k (za5 n).kw) (zik t.v (za5 n).vw) (zbr r); simp only; rw [he']; omega⟩ (fun w' hw' => hw') (by simp only; omega)
  ·obtain rfl : i = L.length := by omega
   refine goA ?_
   refine zae rfl (zba (pre := tsL cc xb r s o) rfl (by kernel_rfl) rfl (zdp cc xb r s o) (fun w1 hw1 hh1 ha1 => zo6 n (k0 := L.length) xb o h hl h6 he w1 hh1 ha1)) fun ⟨s'', hs''⟩ => ?_
   simp only
   refine goA ?_
   refine ze1 (fun w' hw' => qe2 hw') ?_
   refine zae rfl (zba (pre := [ctI, tzI]) rfl (by kernel_rfl) rfl zgh (fun w1 hw1 hh1 ha1 => zmy w1 hh1 ha1)) fun ⟨_, _⟩ => ?_
   refine goA ?_
   exact zbw () rfl rfl rfl trivial (.refl _) zgh
end Go.Proofs.YtkkfifhaobjicaaGreatDoor
namespace Go.Proofs.YtkkfifhaobjicaaGreatDoor
open Go.ChangeShapes Go.ChangeMaps Go.WideShapes Go.ChangeAt Go.RowKit Go.Eng Go.Proofs.YtkkfifhaobjicaaGreatDoor
set_option maxRecDepth 100000
theorem qav {P : Program} {W : World} {base : Nat} {sp : Nat → Bool} {held : Bool} {H : Type} {enc : TypeId × Value → H} {t : TypeId} {f0 f1 f2 : Field} {fuel : Nat} {cs : List Value} {x : DataW H × List MemPlace} (ht : P.underlying t = some (.struct #[f0, f1, f2])) (h : DataW.trod enc P W base sp held fuel t cs = some x) :
  ∃ y0 y1 y2 n, cs.length = P.cellsOf t ∧ DataW.trod enc P W base sp held n f0.type ((cs.drop f0.offset).take (P.cellsOf f0.type)) = some y0 ∧ DataW.trod enc P W base sp held n f1.type ((cs.drop f1.offset).take (P.cellsOf f1.type)) = some y1 ∧
   DataW.trod enc P W base sp held n f2.type ((cs.drop f2.offset).take (P.cellsOf f2.type)) = some y2 := by
 obtain ⟨xs, n, _, rfl, hl, hlen, hf⟩ := DataW.trod_struct ht h
 match xs, hlen with
 | [y0, y1, y2], _ => exact ⟨y0, y1, y2, n, hl, by simpa using hf 0 f0 rfl, by simpa using hf 1 f1 rfl, by simpa using hf 2 f2 rfl⟩
theorem zyk {W : World} {sp : Nat → Bool} {held : Bool} {H : Type} {enc : TypeId × Value → H} {cs : List Value} {y : DataW H × List MemPlace} {n : Nat} (h : DataW.trod enc Tryz.prog W 0 sp held n 31 cs = some y) : ∃ e : A10, cs = e.vs ∧ e.Ok := by
 obtain ⟨y0, y1, y2, m, hl, t0, t1, t2⟩ := qav Tryz.underlying31 h
 have hl3 : cs.length = 3 := hl.trans (by kernel_rfl)
 match cs, hl3 with
 | [a, b, c], _ =>
  obtain ⟨d, hd, -, wd⟩ := DataW.trod_int Tryz.underlying5 t0
  obtain ⟨k, hk, -, wk⟩ := DataW.trod_int Tryz.underlying29 t1
  obtain ⟨v, hv, -, wv⟩ := DataW.trod_int Tryz.underlying29 t2
  have hd' : (([a, b, c] : List Value).drop 0).take (Tryz.prog.cellsOf 5) = [.int .u8 d] := hd
  have hk' : (([a, b, c] : List Value).drop 1).take (Tryz.prog.cellsOf 29) = [.int .u16 k] := hk
  have hv' : (([a, b, c] : List Value).drop 2).take (Tryz.prog.cellsOf 29) = [.int .u16 v] := hv
  rw [show Tryz.prog.cellsOf 5 = 1 by kernel_rfl] at hd'
  rw [show Tryz.prog.cellsOf 29 = 1 by kernel_rfl] at hk' hv'
  simp at hd' hk' hv'
  have vd : 0 ≤ d ∧ d ≤ 255 := by simpa [Lit.wf, IntKind.min, IntKind.max, IntKind.bits, IntKind.signed] using wd
  have vk : 0 ≤ k ∧ k ≤ 65535 := by simpa [Lit.wf, IntKind.min, IntKind.max, IntKind.bits, IntKind.signed] using wk
  have vv : 0 ≤ v ∧ v ≤ 65535 := by simpa [Lit.wf, IntKind.min, IntKind.max, IntKind.bits, IntKind.signed] using wv
  refine ⟨⟨d.toNat, k.toNat, v.toNat⟩, ?_, ⟨by show d.toNat < 256; omega, by show k.toNat < 65536; omega, by show v.toNat < 65536; omega⟩⟩
  show _ = [Value.int .u8 (d.toNat : Int), .int .u16 (k.toNat : Int), .int .u16 (v.toNat : Int)]
  rw [hd', hk', hv', show ((d.toNat : Nat) : Int) = d by omega, show ((k.toNat : Nat) : Int) = k by omega, show ((v.toNat : Nat) : Int) = v by omega]
theorem qea {W : World} {a : Addr} {v : Value} (h : W.cell? a = some v) : a.spot = none := by
 unfold World.cell? at h
 split at h
 ·split at h
  ·cases h
  ·rename_i hh
   simpa using hh
 ·cases h
theorem qq4 {W : World} {a0 : Option Addr} {len0 cap0 : Nat} {H : Type} {enc : TypeId × Value → H} {x : DataW H × List MemPlace} {fuel : Nat}
  (hf : DataW.trod enc Tryz.prog W 0 (fun _ => true) true fuel 22 (Value.slice a0 len0 cap0).cells.toList = some x) : ∃ L : List A10, L.length = len0 ∧ len0 ≤ 9223372036854775807 ∧ Rd W a0 (zc3 A10.vs L) ∧ ∀ e ∈ L, e.Ok := by
 rcases Go.Deep.open_slice Tryz.underlying22 hf with ⟨hcs, _⟩ | ⟨a, len, cap, m, n, D, Pl, hcs, hb, hl, hm, hmm, hx, hel⟩
 ·simp [Value.cells] at hcs
  obtain ⟨rfl, rfl, rfl⟩ := hcs
  exact ⟨[], rfl, by decide, .inl rfl, fun _ h => nomatch h⟩
 ·simp [Value.cells] at hcs
  obtain ⟨rfl, rfl, rfl⟩ := hcs
  simp only [if_true] at hmm
  rw [show Tryz.prog.cellsOf 31 = 3 by kernel_rfl] at hel
  have h1 : ∀ i, i < len0 → ∃ e : A10, W.cells? 0 (a.add (i * 3)) 3 = some e.vs ∧ e.Ok := fun i hi => by
   obtain ⟨cs, c1, c2⟩ := hel i (by omega)
   obtain ⟨e, rfl, he⟩ := zyk c2
   exact ⟨e, c1, he⟩
  obtain ⟨f, hfe⟩ : ∃ f : Nat → A10, ∀ i, i < len0 → W.cells? 0 (a.add (i * 3)) 3 = some (f i).vs ∧ (f i).Ok := by
   classical
   exact ⟨fun i => if h : i < len0 then Classical.choose (h1 i h) else ⟨0, 0, 0⟩, fun i hi => by simp only [dif_pos hi]; exact Classical.choose_spec (h1 i hi)⟩
  refine ⟨(List.range len0).map f, by simp, by have hm' : cap0 ≤ 9223372036854775807 := hm; have := hl; omega, ?_, fun e he => by obtain ⟨i, hi, rfl⟩ := List.mem_map.1 he; exact (hfe i (List.mem_range.1 hi)).2⟩
  rcases Nat.eq_zero_or_pos len0 with h0 | h0
  ·subst h0; exact .inl rfl
  have hcell : ∀ i, i < len0 → ∀ j v, (f i).vs[j]? = some v → W.cell? ((a.add (i * 3)).add j) = some v := fun i hi j v hv => by
   have hj : j < 3 := (List.getElem?_eq_some_iff.1 hv).1
   rw [(World.cells?_some (hfe i hi).1).2.2 j hj, hv]
  have hsp : a.spot = none := by
   have := hcell 0 h0 0 _ rfl
   simp only [Nat.zero_mul] at this
   exact qea (by simpa [Addr.add] using this)
  obtain ⟨ab, ao, asp⟩ := a
  simp only at hsp
  subst hsp
  refine .inr ⟨ab, ao, rfl, fun k u hu => ?_⟩
  have hk : k < len0 * 3 := by
   have := (List.getElem?_eq_some_iff.1 hu).1
   rw [zm9 A10.sz] at this
   simpa using this
  have hdm : k = (k / 3) * 3 + k % 3 := by omega
  have hi : k / 3 < len0 := by omega
  rw [hdm, zzc A10.sz (by simpa using hi) (by omega)] at hu
  simp only [List.getElem_map, List.getElem_range] at hu
  have := hcell _ hi _ _ hu
  rw [zc8, zc8] at this
  rw [hdm, ← Nat.add_assoc]
  exact this
theorem qqu {W : World} {n : String} {g t e : Nat} {sz : Nat} {k : IntKind} {zs : List Int} (hg : Tryz.prog.globalNamed n = some g) (hty : (Tryz.prog.globals[g]?).map (·.type) = some t) (ht : Tryz.prog.underlying t = some (.array sz e)) (he : Tryz.prog.underlying e = some (.int k)) (hce : Tryz.prog.cellsOf e = 1) (hct : Tryz.prog.cellsOf t = sz)
  (hlt : g < Tryz.prog.globals.size) (hrow : (((begin Tryz.prog (fun _ _ => 0) default).world.heap[g]?).bind Obj.row?).map (·.2) = some t) (hS : W.ShapedOpen Tryz.prog) (h : Lib.VarReads Tryz.prog W n (Lib.tabData k zs)) : W.heap[g]? = some (.cells (zs.map fun z => Value.int k z).toArray t (0, 0)) := by
 obtain ⟨g', t', cs, fuel, p, hg', hty', hv, hd⟩ := h
 obtain rfl := Option.some.inj (hg'.symm.trans hg)
 obtain rfl := Option.some.inj (hty'.symm.trans hty)
 have hcs := Lib.cells_of_tab ht he hce hct hd
 obtain ⟨⟨zero, t2⟩, hz, rfl⟩ := Option.map_eq_some_iff.1 hrow
 obtain ⟨cs2, h2, -, -⟩ := hS.1 g' zero t2 hlt hz
 have hv2 : W.var? Tryz.prog n = some cs2 := by
  unfold World.var?
  rw [hg']
  show (match W.heap[g']? with | some (.cells cs _ _) => some cs | _ => none) = _
  rw [h2]
 obtain rfl := Option.some.inj (hv.symm.trans hv2)
 rw [h2]
 show some (Obj.cells cs t2 (0, 0)) = _
 rw [← hcs]
theorem qp3 {W : World} (hS : W.ShapedOpen Tryz.prog) (h : laidMetH Tryz.prog [("armarium/crc.halves", Rows.laid_armarium_crc_halves), ("math/bits.deBruijn64tab", Rows.laid_math_bits_deBruijn64tab)] W) : zqg W ∧ qa1 W := by
 have h1 : laidMet Tryz.prog [("armarium/crc.halves", Rows.laid_armarium_crc_halves), ("math/bits.deBruijn64tab", Rows.laid_math_bits_deBruijn64tab)] W := (laidMetH_iff.1 h).1
 have r1 := Lib.laidMet.reads h1 (n := "armarium/crc.halves") (List.mem_cons_self ..)
 have r2 := Lib.laidMet.reads h1 (n := "math/bits.deBruijn64tab") (List.mem_cons_of_mem _ (List.mem_cons_self ..))
 have e1 : (Rows.laid_armarium_crc_halves : DataW Unit) = Lib.tabData .u32 (halves.map fun b => (b.toNat : Int)) := by kernel_rfl
 have e2 : (Rows.laid_math_bits_deBruijn64tab : DataW Unit) = Lib.tabData .u8 (Bm.tab64.map fun n : Nat => (n : Int)) := by kernel_rfl
 rw [e1] at r1
 rw [e2] at r2
 have t1 := qqu (g := 1) (t := 265) (by kernel_rfl) (by kernel_rfl) Tryz.underlying265 Tryz.underlying249 (by kernel_rfl) (by kernel_rfl) (of_decide_eq_true (by kernel_rfl)) (by kernel_rfl) hS r1
 have t2 := qqu (g := 0) (t := 173) (by kernel_rfl) (by kernel_rfl) Tryz.underlying173 Tryz.underlying5 (by kernel_rfl) (by kernel_rfl) (of_decide_eq_true (by kernel_rfl)) (by kernel_rfl) hS r2
 rw [List.map_map] at t1 t2
 exact ⟨⟨t1⟩, ⟨t2⟩⟩
theorem qb3 {W : World} (h : zqg W ∧ qa1 W) : ∀ it ∈ [ctI, tzI], za2 it W := by
 intro it hm
 rcases hm with _ | ⟨_, _ | ⟨_, hm⟩⟩
 ·exact ⟨h.1, zcz _, fun k hk => by have hk : k = _ := hk; rw [hk]; exact (Array.getElem?_eq_some_iff.1 h.1.obj).1⟩
 ·exact ⟨h.2, zjk _, fun k hk => by have hk : k = _ := hk; rw [hk]; exact (Array.getElem?_eq_some_iff.1 h.2.obj).1⟩
 ·cases hm
theorem zxd : [ctI, tzI].Pairwise Eng.Item.Apart := by
 refine List.pairwise_cons.2 ⟨fun y hy k h1 h2 => ?_, List.pairwise_cons.2 ⟨fun _ h => (nomatch h), .nil⟩⟩
 rcases hy with _ | ⟨_, hy⟩
 ·have h1 : k = 1 := h1
  have h2 : k = 0 := h2
  rw [h1] at h2
  exact absurd h2 (by decide)
 ·cases hy
theorem qnh {W W' : World} (hT : zqg W ∧ qa1 W) (h : Its (zap [ctI, tzI]) W [ctI, tzI] W') : Below W.heap.size W W' := by
 refine ⟨h.fr.os, h.fr.tape, h.fr.output, h.fr.size, fun k hk => ?_⟩
 by_cases h1 : k = 1
 ·rw [h1, hT.1.obj]
  exact ((h.item ctI (.head _)).1 : zqg W').obj
 by_cases h2 : k = 0
 ·rw [h2, hT.2.obj]
  exact ((h.item tzI (.tail _ (.head _))).1 : qa1 W').obj
 ·refine h.fr.block k hk ?_
  rintro ⟨it, hm, hf⟩
  rcases hm with _ | ⟨_, _ | ⟨_, hm⟩⟩
  ·exact h1 hf
  ·exact h2 hf
  ·cases hm
theorem qen {W : World} (hT : zqg W ∧ qa1 W) {L : List A10} {a : Option Addr} (hr : Rd W a (zc3 A10.vs L)) : ∀ b off, a = some ⟨b, off, none⟩ → L ≠ [] → ¬ zap [ctI, tzI] b := by
 intro b off he hL
 have hl : 0 < L.length := List.length_pos_iff.2 hL
 obtain ⟨b', off', he', hrow⟩ := qff hr hl
 rw [he] at he'
 cases he'
 have c0 := hrow 0 _ rfl
 have c1 := hrow 1 _ rfl
 rintro ⟨it, hm, hf⟩
 rcases hm with _ | ⟨_, _ | ⟨_, hm⟩⟩
 ·have hf : b = _ := hf
  subst hf
  unfold World.cell? at c0
  simp only [hT.1.obj] at c0
  simp at c0
 ·have hf : b = _ := hf
  subst hf
  unfold World.cell? at c1
  simp only [hT.2.obj] at c1
  simp at c1
 ·cases hm
theorem own : ownKnob Tryz.prog.godebug = none := by kernel_rfl
theorem qli : laidOutB Tryz.prog = true := by kernel_rfl
end Go.Proofs.YtkkfifhaobjicaaGreatDoor
