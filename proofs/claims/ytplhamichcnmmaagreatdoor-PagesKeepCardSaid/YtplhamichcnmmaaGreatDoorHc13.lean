/- package pack, the opener: a name. -/
/- package crc: the checksum of bytes; its table as it is laid. -/
/- package pack: numbers of eight bytes. -/
/- strings.Builder, written on behind String: the buffer's head may be frozen. -/
import Derived.Test.YtplhamichcnmmaaGreatDoorHc12
import Derived.Test.YtplhamichcnmmaaGreatDoorHc07
import Derived.Test.YtplhamichcnmmaaGreatDoorHc08
import Derived.Lib.FrozenHead
import Derived.Lib.MakeNoZero
import Derived.Lib.UnsafeStr
namespace Go.Proofs.YtplhamichcnmmaaGreatDoor
open Go.RowKit Go.Eng
set_option maxRecDepth 100000
set_option maxHeartbeats 40000000
theorem Rd.at0 {w : World} {b off : Nat} {x : UInt8} {r : Bys} (h : Rd w (some ⟨b, off, none⟩) (bytesV (x :: r))) : w.cell? ⟨b, off + 0, none⟩ = some (.int .u8 (x.toNat : Int)) := by
  obtain ⟨b2, off2, e, h2⟩ := h.byte (i := 0) (by simp)
  cases e
  exact h2
theorem opName_bad (r : Bys) : opName (r, true) = ([], (r, true)) := rfl
theorem opName_nil : opName ([], false) = ([], ([], true)) := rfl
theorem opName_short {x : UInt8} {r : Bys} (h : r.length < x.toNat) : opName (x :: r, false) = ([], (x :: r, true)) := by simp [opName, h]
theorem opName_long {x : UInt8} {r : Bys} (h : ¬ r.length < x.toNat) : opName (x :: r, false) = opT x.toNat (r, false) := by simp [opName, opT, h]
theorem opN_one (x : UInt8) (r : Bys) : opN 1 (x :: r, false) = (x.toNat, (r, false)) := by simp [opN, opT, beV]
theorem opN_badv (n : Nat) (r : Bys) : opN n (r, true) = (0, (r, true)) := by simp [opN, opT, beV]
theorem oTakeE {b : Nat} {a : Option Addr} {c : Nat} {st : Opn} {n : Nat} {D : Eng.Item} (v : Nat) (st' : Opn) (he : opN n st = (v, st')) (hsD : D.Stable none') (hD : OpOk D a c st.1) (hn : n = 1 ∨ n = 2 ∨ n = 4) (hz : st.1.length ≤ 1000000000) {w : World} (hw : ∀ it ∈ [opI b a c st, D], Here it w) (ha : [opI b a c st, D].Pairwise Eng.Item.Apart) :
    Ct Tryz.prog 44 #[.pointer (some ⟨b, 0, none⟩), .int .i64 n] w (foots [opI b a c st, D]) (fun _ : Option Addr × Nat => .int .u64 (v : Nat)) (fun p => OpOk D p.1 p.2 st'.1) (fun p => [opI b p.1 p.2 st', D]) := by
  have := oTake_calls b a c st n D hsD hD hn hz w hw ha
  rw [he] at this; exact this
theorem oTextE {b : Nat} {a : Option Addr} {c : Nat} {st : Opn} {n : Nat} {D : Eng.Item} (t : Bys) (st' : Opn) (he : opT n st = (t, st')) (hsD : D.Stable none') (hD : OpOk D a c st.1) (hz : st.1.length ≤ 1000000000) {w : World} (hw : ∀ it ∈ [opI b a c st, D], Here it w) (ha : [opI b a c st, D].Pairwise Eng.Item.Apart) :
    Ct Tryz.prog 45 #[.pointer (some ⟨b, 0, none⟩), .int .i64 n] w (foots [opI b a c st, D]) (fun _ : Option Addr × Nat => .string ⟨t.toArray⟩) (fun p => OpOk D p.1 p.2 st'.1) (fun p => [opI b p.1 p.2 st', D]) := by
  have := oText_calls b a c st n D hsD hD hz w hw ha
  rw [he] at this; exact this
theorem oName_calls (b : Nat) (a : Option Addr) (c : Nat) (st : Opn) (D : Eng.Item) (hsD : D.Stable none') (hD : OpOk D a c st.1) (hz : st.1.length ≤ 1000000000) (w : World) (hw : ∀ it ∈ [opI b a c st, D], Here it w) (ha : [opI b a c st, D].Pairwise Eng.Item.Apart) :
    Ct Tryz.prog 135 #[.pointer (some ⟨b, 0, none⟩)] w (foots [opI b a c st, D]) (fun _ : Option Addr × Nat => .string ⟨(opName st).1.toArray⟩) (fun p => OpOk D p.1 p.2 (opName st).2.1) (fun p => [opI b p.1 p.2 (opName st).2, D]) := by
  refine cu_of [_] _ Tryz.func135 rfl rfl hw ha ?_
  simp only [argSlots]
  refine goA ?_
  obtain ⟨r, bad⟩ := st
  cases r with
  | nil =>
    refine t_drawp (by kernel_rfl) ?_
    refine goE ?_
    refine d_opg 1 ⟨by kernel_rfl, by decide⟩ rfl rfl (o_pure rfl (by kernel_rfl) rfl (fun w1 hw1 => left_calls b a c ([], bad) w1 ⟨(hw1.item _ (.head _)).1, opI_stable _ _ _ _, fun k hk => ((hw1.item _ (.head _)).2.2 k hk).1⟩)) (fun _ _ h => h) fun _ => ?_
    simp only [List.length_nil]
    refine goE ?_
    refine d_end (by kernel_rfl) ?_
    refine goA ?_
    have e : opN 1 (([] : Bys), bad) = (0, ([], true)) := by cases bad <;> rfl
    have e2 : opName (([] : Bys), bad) = ([], ([], true)) := by cases bad <;> rfl
    rw [e2]
    refine l_opg rfl (o_cu (pre := [opI b a c ([], bad), D]) rfl (by kernel_rfl) rfl (by simp [opI_stable, hsD]) (fun w1 hw1 hh1 ha1 => oTakeE 0 ([], true) e hsD hD (.inl rfl) (by simp) hh1 ha1)) fun ⟨x, hx⟩ => ?_
    refine goA ?_
    refine l_opg rfl (o_cu (pre := [opI b x.1 x.2 ([], true), D]) rfl (by kernel_rfl) rfl (by simp [opI_stable, hsD]) (fun w1 hw1 hh1 ha1 => oTextE (n := 0) [] ([], true) rfl hsD hx (by simp) hh1 ha1)) fun ⟨y, hy⟩ => ?_
    refine goA ?_
    exact x_ct y rfl rfl rfl hy (.refl _) (by simp [opI_stable, hsD])
  | cons x r =>
    have hrw := hD.2 w (hw D (by simp)).1
    obtain ⟨bb, off, rfl, hc0⟩ := hrw.byte (i := 0) (by simp)
    have hx0 : ∀ {F : Nat → Prop} {m : List Eng.Item} w', Hp w F m w' → D ∈ m → w'.cell? ⟨bb, off + 0, none⟩ = some (.int .u8 (x.toNat : Int)) := fun w' hw' hm => Rd.at0 (hD.2 w' (hw'.item D hm).1)
    have hxl := x.toNat_lt
    have hzr : r.length ≤ 1000000000 := by simp only [List.length_cons] at hz; omega
    obtain ⟨N1, hN1⟩ : ∃ n, (x :: r).length = n := ⟨_, rfl⟩
    have hN2 : N1 = r.length + 1 := by rw [← hN1]; rfl
    have hopI : opI b (some ⟨bb, off, none⟩) c (x :: r, bad) = opJ b (some ⟨bb, off, none⟩) N1 c (if bad then 3 else 0) := by rw [← hN1]; rfl
    rw [hopI]
    refine t_drawp (by kernel_rfl) ?_
    refine goE ?_
    refine d_opg 1 ⟨by kernel_rfl, by decide⟩ rfl rfl (o_pure rfl (by kernel_rfl) rfl (fun w1 hw1 => left_calls b (some ⟨bb, off, none⟩) c (x :: r, bad) w1 (by rw [hopI]; exact ⟨(hw1.item _ (.head _)).1, pt_stable _ _ _, fun k hk => ((hw1.item _ (.head _)).2.2 k hk).1⟩))) (fun _ _ h => h) fun _ => ?_
    simp only [hN1]
    refine goE ?_
    refine d_v [] rfl rfl (by kernel_rfl) (fun _ h => h) rfl rfl (v_load rfl rfl (fun w' hw' => hx0 w' hw' (by simp))) ?_
    refine goE ?_
    refine d_end (by kernel_rfl) ?_
    rw [← hopI]
    cases bad with
    | true =>
      rw [opName_bad]
      refine goA ?_
      refine t_if rfl rfl (fun h => ?_) (fun h => ?_)
      · refine goA ?_
        refine l_opg rfl (o_cu (pre := [opI b (some ⟨bb, off, none⟩) c (x :: r, true), D]) rfl (by kernel_rfl) rfl (by simp [opI_stable, hsD]) (fun w1 hw1 hh1 ha1 => oTextM_calls b _ c (x :: r, true) D hsD hD w1 hh1 ha1)) fun _ => ?_
        refine goA ?_
        exact x_ct (some ⟨bb, off, none⟩, c) rfl rfl rfl hD (.refl _) (by simp [opI_stable, hsD])
      · refine goA ?_
        refine l_opg rfl (o_cu (pre := [opI b (some ⟨bb, off, none⟩) c (x :: r, true), D]) rfl (by kernel_rfl) rfl (by simp [opI_stable, hsD]) (fun w1 hw1 hh1 ha1 => oTakeE 0 (x :: r, true) (opN_badv 1 _) hsD hD (.inl rfl) hz hh1 ha1)) fun ⟨y, hy⟩ => ?_
        refine goA ?_
        refine l_opg rfl (o_cu (pre := [opI b y.1 y.2 (x :: r, true), D]) rfl (by kernel_rfl) rfl (by simp [opI_stable, hsD]) (fun w1 hw1 hh1 ha1 => oTextE (n := 0) [] (x :: r, true) rfl hsD hy hz hh1 ha1)) fun ⟨z, hz2⟩ => ?_
        refine goA ?_
        exact x_ct z rfl rfl rfl hz2 (.refl _) (by simp [opI_stable, hsD])
    | false =>
      by_cases hs : r.length < x.toNat
      · rw [opName_short hs]
        refine goA ?_
        refine l_opg rfl (o_cu (pre := [opI b (some ⟨bb, off, none⟩) c (x :: r, false), D]) rfl (by kernel_rfl) rfl (by simp [opI_stable, hsD]) (fun w1 hw1 hh1 ha1 => oTextM_calls b _ c (x :: r, false) D hsD hD w1 hh1 ha1)) fun _ => ?_
        refine goA ?_
        exact x_ct (some ⟨bb, off, none⟩, c) rfl rfl rfl hD (.refl _) (by simp [opI_stable, hsD])
      · rw [opName_long hs]
        refine goA ?_
        refine l_opg rfl (o_cu (pre := [opI b (some ⟨bb, off, none⟩) c (x :: r, false), D]) rfl (by kernel_rfl) rfl (by simp [opI_stable, hsD]) (fun w1 hw1 hh1 ha1 => oTakeE x.toNat (r, false) (opN_one x r) hsD hD (.inl rfl) hz hh1 ha1)) fun ⟨y, hy⟩ => ?_
        refine goA ?_
        refine l_opg rfl (o_cu (pre := [opI b y.1 y.2 (r, false), D]) rfl (by kernel_rfl) rfl (by simp [opI_stable, hsD]) (fun w1 hw1 hh1 ha1 => oText_calls b y.1 y.2 (r, false) x.toNat D hsD hy hzr w1 hh1 ha1)) fun ⟨z, hz2⟩ => ?_
        refine goA ?_
        exact x_ct z rfl rfl rfl hz2 (.refl _) (by simp [opI_stable, hsD])
end Go.Proofs.YtplhamichcnmmaaGreatDoor

namespace Go.Proofs.YtplhamichcnmmaaGreatDoor
open Go.RowKit Go.Eng
set_option maxRecDepth 100000
set_option maxHeartbeats 40000000
structure CTab (w : World) : Prop where
  obj : w.heap[1]? = some (.cells (halves.map w32).toArray 200 (0, 0))
theorem CTab.halves {w : World} (h : CTab w) : w.rangeAt 1 0 (halves.map w32) := rangeAt_pt h.obj
theorem CTab.top {w : World} (h : CTab w) : 1 < w.heap.size := (Array.getElem?_eq_some_iff.1 h.obj).1
theorem CTab.fr {w w' : World} {F : Nat → Prop} (h : CTab w) (hF : ¬ F 1) (hf : Fr F w w') : CTab w' := ⟨(hf.block _ h.top hF).trans h.obj⟩
theorem CTab.keep {w w' : World} {m : List Eng.Item} (h : CTab w) (hw : Hp w none' m w') : CTab w' := h.fr (fun h => h) hw.fr
def hN : Nat → BitVec 32 → BitVec 32
  | 0, m => m
  | j + 1, m => half (hN j m)
theorem halves_at (m : BitVec 32) : (halves.map w32)[(m &&& 15#32).toNat]? = some (w32 (halves[(m &&& 15#32).toNat]?.getD 0)) := by
  have h : (m &&& 15#32).toNat < halves.length := by
    rw [BitVec.toNat_and]
    exact Nat.lt_succ_of_le Nat.and_le_right
  rw [List.getElem?_map, List.getElem?_eq_getElem h]
  rfl
theorem crc_calls (a : Option Addr) (n c : Nat) (bs : Bys) (hn : bs.length = n) (hz : n ≤ 1000000000) (w : World) (hr : Rd w a (bytesV bs)) (ht : CTab w) :
    Pu Tryz.prog 134 #[.slice a n c] w (w32 (crcF bs)) := by
  refine pu_of [_] Tryz.func134 rfl rfl ?_
  simp only [argSlots]
  refine goA ?_
  refine t_for (α := Nat) (fun k => [(3, w32 ((bs.take k).foldl byte1 (BitVec.allOnes 32))), (6, .slice a n c), (7, .int .i64 n), (8, .int .i64 k)]) (fun k => k ≤ n) (fun _ => []) (fun k => n - k) 0 ⟨rfl, rfl, rfl, rfl, trivial⟩ (Nat.zero_le _) (fun _ h => h) fun k hk => ?_
  by_cases hk2 : k < n
  · have hkb : k < bs.length := by omega
    obtain ⟨b, off, rfl, hc⟩ := hr.byte hkb
    have hst : (bs.take (k + 1)).foldl byte1 (BitVec.allOnes 32) = byte1 ((bs.take k).foldl byte1 (BitVec.allOnes 32)) bs[k] := by rw [List.take_succ_eq_append_getElem hkb, List.foldl_append]; rfl
    generalize bs[k] = x at hc hst
    generalize (bs.take k).foldl byte1 (BitVec.allOnes 32) = q at hst ⊢
    refine goW ?_
    refine l_w rfl (v_load0 rfl rfl (fun h => h) hc) ?_
    refine goW ?_
    refine t_for (α := Nat) (fun j => [(3, w32 (hN j (q ^^^ BitVec.ofNat 32 x.toNat))), (6, .slice (some ⟨b, off, none⟩) n c), (7, .int .i64 n), (8, .int .i64 k), (16, .int .i64 j)]) (fun j => j ≤ 2) (fun _ => []) (fun j => 2 - j) 0 ⟨rfl, rfl, rfl, rfl, rfl, trivial⟩ (Nat.zero_le _) (fun _ h => h) fun j hj => ?_
    by_cases hj2 : j < 2
    · have hh := halves_at (hN j (q ^^^ BitVec.ofNat 32 x.toNat))
      have hl : (hN j (q ^^^ BitVec.ofNat 32 x.toNat) &&& 15#32).toNat < 16 := by
        rw [BitVec.toNat_and]
        exact Nat.lt_succ_of_le Nat.and_le_right
      refine goW ?_
      refine l_w rfl (v_load0 rfl rfl (fun h => h) (ht.halves _ _ hh)) ?_
      refine goW ?_
      exact x_round (j + 1) ⟨rfl, rfl, rfl, rfl, rfl, trivial⟩ hj2 (fun _ h => h) (by omega)
    · obtain rfl : j = 2 := by omega
      refine goW ?_
      refine x_round (k + 1) ⟨by rw [hst]; rfl, rfl, rfl, rfl, trivial⟩ hk2 (fun _ h => h) (by omega)
  · obtain rfl : k = n := by omega
    have ht : bs.take k = bs := List.take_of_length_le (by omega)
    rw [ht]
    refine goW ?_
    exact x_pu rfl rfl rfl
end Go.Proofs.YtplhamichcnmmaaGreatDoor

namespace Go.Proofs.YtplhamichcnmmaaGreatDoor
open Go.RowKit Go.Eng
set_option maxRecDepth 100000
set_option maxHeartbeats 40000000
theorem put8_calls (b : Nat) (o : Option (Nat × Nat)) (xs : List UInt8) (n : Nat) (hn : n < 18446744073709551616) (hz : xs.length ≤ 900000000) (w : World) (hw : ∀ it ∈ pks b o xs, Here it w) (ha : (pks b o xs).Pairwise Eng.Item.Apart) :
    Ct Tryz.prog 61 #[.pointer (some ⟨b, 0, none⟩), .int .i64 8, .int .u64 n] w (foots (pks b o xs)) (fun _ : Option (Nat × Nat) => .pointer (some ⟨b, 0, none⟩)) (fun _ => True) (fun o' => pks b o' (xs ++ beN 8 n)) := by
  refine cu_of [_, _, _] _ Tryz.func61 rfl rfl hw ha ?_
  simp only [argSlots, Nat.reduceAdd]
  refine goA ?_
  refine l_box1 rfl rfl rfl fun b4 hb4 => ?_
  refine goA ?_
  refine l_box1 rfl rfl rfl fun b5 hb5 => ?_
  refine goA ?_
  refine l_opg rfl (o_pure rfl (by kernel_rfl) rfl (fun w1 hw1 => wide_calls 8 (by decide) w1)) fun _ => ?_
  refine goA ?_
  refine l_w rfl (v_mkf rfl) ?_
  refine l_pick [2, 3, 1, 0] rfl rfl ?_
  refine l_opg rfl (o_cu (pre := [own _ _ _ _ _, pt b _]) rfl (by kernel_rfl) rfl (by first | (simp [pt_stable, own_stable, mp_stable]; done) | (intro it hm; (iterate 6 (all_goals try (rcases hm with _ | ⟨_, hm⟩))) <;> first | exact bundle_stable _ | exact pt_stable _ _ _ | exact own_stable _ _ _ _ _ _)) (fun w1 hw1 hh1 ha1 => puts_calls b o xs (beN 8 n) 109 [.pointer (some ⟨b4, 0, none⟩), .pointer (some ⟨b5, 0, none⟩)] (fun p : Nat × Nat => ⟨p.1, 0, none⟩) (fun p => p.2) (fun p => own 5 1 (some p) 8 (bytesV (beN 8 n))) (fun p => own_stable _ _ _ _ _ _) (by kernel_rfl) (by rw [beN_length]; omega) w1 hh1 ha1 (fun w2 hw2 => by rw [beN_length]; exact putF_calls b4 b5 8 n (by decide) w2 (hw2.old (out_of hw1 (.head _)) (cell_pt (hw1.get (.tail _ (.tail _ (.head _)))) rfl)) (hw2.old (out_of hw1 (.tail _ (.head _))) (cell_pt (hw1.get (.tail _ (.tail _ (.tail _ (.head _))))) rfl))) (fun p w2 hp _ j v hj => by rw [add_at, Nat.zero_add]; exact own_rd hp j v hj))) fun ⟨x, hx⟩ => ?_
  refine goA ?_
  exact x_ct x rfl rfl rfl trivial (.cons_cons _ (.cons_cons _ (List.nil_sublist _))) (by simp [own_stable, pt_stable])
theorem oTake8_calls (b : Nat) (a : Option Addr) (c : Nat) (st : Opn) (D : Eng.Item) (hsD : D.Stable none') (hD : OpOk D a c st.1) (hz : st.1.length ≤ 1000000000) (w : World) (hw : ∀ it ∈ [opI b a c st, D], Here it w) (ha : [opI b a c st, D].Pairwise Eng.Item.Apart) :
    Ct Tryz.prog 44 #[.pointer (some ⟨b, 0, none⟩), .int .i64 8] w (foots [opI b a c st, D]) (fun _ : Option Addr × Nat => .int .u64 ((opN 8 st).1 : Nat)) (fun p => OpOk D p.1 p.2 (opN 8 st).2.1) (fun p => [opI b p.1 p.2 (opN 8 st).2, D]) := by
  refine cu_of [_, _] _ Tryz.func44 rfl rfl hw ha ?_
  simp only [argSlots, Nat.reduceAdd]
  refine goA ?_
  refine l_opg rfl (o_pure rfl (by kernel_rfl) rfl (fun w1 hw1 => wide_calls 8 (by decide) w1)) fun _ => ?_
  refine goA ?_
  refine l_opg rfl (o_cu (pre := [opI b a c st, D]) rfl (by kernel_rfl) rfl (by simp [opI_stable, hsD]) (fun w1 hw1 hh1 ha1 => takeN_calls b a c st 8 D hsD hD (by decide) hz w1 hh1 ha1)) fun ⟨x, hx⟩ => ?_
  refine goA ?_
  exact x_ct x rfl rfl rfl hx (.refl _) (by simp [opI_stable, hsD])
theorem oTake8E {b : Nat} {a : Option Addr} {c : Nat} {st : Opn} {D : Eng.Item} (v : Nat) (st' : Opn) (he : opN 8 st = (v, st')) (hsD : D.Stable none') (hD : OpOk D a c st.1) (hz : st.1.length ≤ 1000000000) {w : World} (hw : ∀ it ∈ [opI b a c st, D], Here it w) (ha : [opI b a c st, D].Pairwise Eng.Item.Apart) :
    Ct Tryz.prog 44 #[.pointer (some ⟨b, 0, none⟩), .int .i64 8] w (foots [opI b a c st, D]) (fun _ : Option Addr × Nat => .int .u64 (v : Nat)) (fun p => OpOk D p.1 p.2 st'.1) (fun p => [opI b p.1 p.2 st', D]) := by
  have := oTake8_calls b a c st D hsD hD hz w hw ha
  rw [he] at this; exact this
end Go.Proofs.YtplhamichcnmmaaGreatDoor

namespace Go.Eng
open Go.RowKit Go.Lib
variable {P : Program} {Q : Exit → Act → World → Prop} {N : Fm} {l : Slots} {ops : Array Oper} {rest : List Oper} {w0 : World} {F : Nat → Prop} {m : List Item} {pos : String} {after : Array Edge} {g : Option (Nat × Bool)} {d : Nat}
def ownF (e : TypeId) (o : Option (Nat × Nat)) (n : Nat) (xs : List Value) : Item :=
  ⟨fun k => ∃ c, o = some (k, c), fun w => w.ownsRowF 0 e 1 (slV o n) n xs⟩
theorem ownF_stable (ro : Nat → Prop) (e : TypeId) (o : Option (Nat × Nat)) (n : Nat) (xs : List Value) : (ownF e o n xs).Stable ro := by
  intro w w' h ⟨h1, h2⟩
  refine ⟨h1, ?_⟩
  rcases h2 with h2 | ⟨b, cap, cur, fz, hv, hb, hg, h3⟩
  · exact .inl h2
  · refine .inr ⟨b, cap, cur, fz, hv, hb, ?_, h3⟩
    match o, hv with
    | none, hv => cases hv
    | some (k, c), hv =>
      cases hv
      rw [h b (.inr ⟨_, rfl⟩)]; exact hg
theorem own_ownF {w : World} {e : TypeId} {o : Option (Nat × Nat)} {n : Nat} {xs : List Value} (h : (own e 1 o n xs).prop w) : (ownF e o n xs).prop w := World.ownsRowF_of (own_row h)
theorem ownF_len {w : World} {e : TypeId} {o : Option (Nat × Nat)} {n : Nat} {xs : List Value} (h : (ownF e o n xs).prop w) : xs.length = n := by have := h.1; simpa using this
theorem its_ownF {w w' : World} {e : TypeId} {n : Nat} {o o' : Option (Nat × Nat)} {xs : List Value} (hp : (ownF e o' n xs).prop w') (hf : Fr (fun k => ∃ c, o = some (k, c)) w w') (hn : ∀ b c, o' = some (b, c) → w.heap.size ≤ b ∨ ∃ c', o = some (b, c')) : Its (fun k => ∃ c, o = some (k, c)) w [ownF e o' n xs] w' := by
  refine ⟨hf, fun it hm => ?_, .cons (fun _ h => nomatch h) .nil⟩
  rw [List.mem_singleton] at hm
  subst hm
  refine ⟨hp, ownF_stable _ _ _ _ _, fun k ⟨c, hk⟩ => ⟨?_, fun hlt => ?_⟩⟩
  · subst hk
    rcases hp.2 with ⟨h, -⟩ | ⟨b, cap, cur, fz, hv, -, hg, -⟩
    · cases h
    · cases hv
      exact (Array.getElem?_eq_some_iff.1 hg).1
  · rcases hn k c hk with h | h
    · omega
    · exact h
theorem app_strF {t u ty' e : TypeId} {i : TypeInfo} (ht : P.underlying t = some (.slice e)) (hu : P.underlying u = some .string) (hi : P.info? e = some i) (hz : i.zero = some (.int .u8 0)) (hs1 : i.size = 1) (hby : i.bytes = 1)
    {w : World} {o : Option (Nat × Nat)} {n : Nat} {xs : List Value} (hown : (ownF e o n xs).prop w) (s : ByteArray) (h63 : n + s.size ≤ 140737488355328) :
    ∃ o' w', (Builtin.append_ #[t, u] ty' #[slV o n, .string s]).run P w = .ok (slV o' (n + s.size)) w' ∧ Its (fun k => ∃ c, o = some (k, c)) w [ownF e o' (n + s.size) (xs ++ strCells s)] w' := by
  match o, hown with
  | none, hown =>
    obtain rfl : n = 0 := by
      rcases hown.2 with ⟨-, h⟩ | ⟨b, cap, cur, fz, hv, -⟩
      · exact h
      · cases hv
    have hx0 : xs = [] := List.eq_nil_of_length_eq_zero (ownF_len hown)
    subst hx0
    obtain ⟨o', w', hr, hits⟩ := app_str (P := P) (ty' := ty') ht hu hi hz hs1 hby (o := none) (n := 0) (xs := []) (w := w) ⟨rfl, rfl⟩ s h63
    refine ⟨o', w', hr, its_ownF (own_ownF (hits.item _ (.head _)).1) hits.fr fun b c hb => ?_⟩
    have h := (hits.item _ (.head _)).2.2 b ⟨c, hb⟩
    rcases Nat.lt_or_ge b w.heap.size with hl | hl
    · obtain ⟨c', h'⟩ := h.2 hl
      cases h'
    · exact .inl hl
  | some (b, cap), hown =>
    have hxl := ownF_len hown
    rcases hown.2 with ⟨h, -⟩ | ⟨b2, cap2, cur, fz, hv, -, h4, hfz, h2, h3, h5, h6⟩
    · cases h
    cases hv
    rw [Nat.mul_one] at h5 h6 hfz
    have hlen : (xs ++ strCells s).length = (n + s.size) * 1 := by rw [List.length_append, hxl, strCells_length, Nat.mul_one]
    have hmx : n + s.size ≤ maxLen := by unfold maxLen; omega
    by_cases hroom : n + s.size ≤ cap
    · have hr := Lib.run_append_room_stringF (P := P) w t u ty' e i ht hu hi hs1 b n cap cur fz h4 hfz s hroom (by omega)
      refine ⟨some (b, cap), _, hr, its_ownF ⟨hlen, .inr ⟨b, cap, _, fz, rfl, Nat.zero_le _, setRow_heap w b cur _ e _ h4, by omega, hroom, h3, ?_, ?_⟩⟩ (fr_grow rfl rfl rfl (by simp) fun j _ hj => setRow_other w b j _ (fun e => hj ⟨cap, by rw [e]⟩)) (fun b' c' h => .inr ⟨c', h⟩)⟩
      · simp only [List.size_toArray, List.length_append, List.length_take, List.length_drop, Array.length_toList, strCells_length]
        omega
      · rw [h6, ← hlen]
        exact List.take_left
    · have hr := run_append_grow_string (P := P) w t u ty' e i (.int .u8 0) ht hu hi hz ⟨b, 0, none⟩ n cap xs (by rw [hs1]; simpa using hxl) (hown.cells (g := b) rfl) s (by omega) (by omega) (by rw [hby]; exact growslice_fits (by omega) (by omega))
      have hge := grownCap_ge w (n + s.size) cap e
      refine ⟨some (w.heap.size, grownCap w (n + s.size) cap e), _, hr, its_ownF ⟨hlen, .inr ⟨w.heap.size, _, _, (0, 0), rfl, Nat.zero_le _, heap_alloc_new w.drew _, Nat.zero_le _, hge, grownCap_le_maxLen w (n + s.size) cap e hmx, ?_, ?_⟩⟩ (fr_grow rfl rfl rfl (by simp) fun j hj _ => Below.heap_alloc w.drew _ j hj) (fun b c' h => .inl (by cases h; exact Nat.le_refl _))⟩
      · have hz1 : (Value.int IntKind.u8 0).cells.size = 1 := rfl
        simp only [Array.size_append, List.size_toArray, size_zeroCells, hz1, hxl, strCells_length]
        omega
      · simp only [Array.toList_append, List.append_assoc]
        rw [← List.append_assoc, ← hlen]
        exact List.take_left
theorem o_appstrF {T U T' e : TypeId} {x y : Operand} {o : Option (Nat × Nat)} {n : Nat} {xs : List Value} {s : ByteArray} (hok : okOp N l (.call ⟨.builtin .append, #[x, y], #[T, U]⟩) d = true) (hx : evO l x = some (slV o n)) (hy : evO l y = some (.string s))
    (hT : sliE P T = some e) (hU : P.underlying U = some .string) (he : byteE P e = true) (hn : n + s.size ≤ 140737488355328) :
    HO P ⟨some d, .call ⟨.builtin .append, #[x, y], #[T, U]⟩, T', pos, after, g⟩ Q N l (Hp w0 F (ownF e o n xs :: m)) (α := Option (Nat × Nat)) (fun o' => (d, slV o' (n + s.size)) :: l) (fun o' => Hp w0 F (ownF e o' (n + s.size) (xs ++ bytesV s.data.toList) :: m)) :=
  o_mem (val := fun o' => slV o' (n + s.size)) hok (fun w hw => by
    obtain ⟨i, h1, h2, h3, h4⟩ := byteE_spec he
    obtain ⟨o', w', hr, hits⟩ := app_strF (P := P) (ty' := T') (sliE_spec hT) hU h1 h2 h3 h4 (hw.item (ownF e o n xs) (.head _)).1 s hn
    rw [strCells_eq] at hits
    refine ⟨o', w', ?_, Hp.call (m := [ownF e o n xs]) hw hits (fun k' _ hk => ⟨ownF e o n xs, by simp, hk⟩)⟩
    simp only [execOp, resolve, invoke, builtin]
    simp [ev_of hx, ev_of hy, hr])
theorem freeze_same {w : World} {b n : Nat} {cur : Array Value} {e : TypeId} {fz : Nat × Nat} (h : w.heap[b]? = some (.cells cur e fz)) (h2 : fz.2 ≤ n) : ∃ fz', (w.freeze ⟨b, 0, none⟩ n).heap[b]? = some (.cells cur e fz') ∧ fz'.2 ≤ n := by
  unfold World.freeze
  split
  · exact ⟨fz, h, h2⟩
  · obtain ⟨lo, hi⟩ := fz
    refine ⟨if lo == hi then (0, 0 + n) else (min lo 0, max hi (0 + n)), ?_, ?_⟩
    · simp only [Array.getElem?_modify, h, if_true, Option.map_some]
    · split
      · simp
      · simp only at h2 ⊢
        omega
theorem o_ustrF {pt' it' T' e : TypeId} {x y : Operand} {b c n : Nat} {k : Int} [h : NatOf k n] {s : ByteArray} (hok : okOp N l (.call ⟨.builtin .unsafeString, #[x, y], #[pt', it']⟩) d = true) (hx : evO l x = some (.pointer (some ⟨b, 0, none⟩))) (hy : evO l y = some (.int .i64 k)) (hT : ptrE P pt' = some e) (hc : P.cellsOf e = 1) (h0 : 0 < n) (hn : n = s.size) :
    HO P ⟨some d, .call ⟨.builtin .unsafeString, #[x, y], #[pt', it']⟩, T', pos, after, g⟩ Q N l (Hp w0 F (ownF e (some (b, c)) n (bytesV s.data.toList) :: m)) (α := Unit) (fun _ => (d, .string s) :: l) (fun _ => Hp w0 F (ownF e (some (b, c)) n (bytesV s.data.toList) :: m)) := by
  obtain rfl := h.eq
  exact o_mem (val := fun _ => .string s) hok (fun w hw => by
    have hp := (hw.item (ownF e (some (b, c)) n (bytesV s.data.toList)) (.head _)).1
    have hlen := ownF_len hp
    rcases hp.2 with ⟨h, -⟩ | ⟨b2, cap2, cur, fz, hv, -, h3, hfz, h2, h4, h5, h6⟩
    · cases h
    cases hv
    rw [Nat.mul_one] at h5 h6 hfz
    have hsh : w.shape? b = some (e, cur.size) := by simp [World.shape?, h3]
    have hsl : s.data.toList.length = n := by rw [ba_size]; exact hn.symm
    have hr := Lib.run_unsafeString_row (P := P) w pt' it' T' e (ptrE_spec hT).1 hc b cur.size hsh s.data.toList (by intro h; rw [h] at hsl; simp at hsl; omega) (by omega) (by unfold maxLen at h4; omega) (fun j x hx => by
      exact hp.cells (g := b) rfl j _ (by simp [bytesV, hx]))
    obtain ⟨fz', hf1, hf2⟩ := freeze_same h3 hfz
    refine ⟨(), w.freeze ⟨b, 0, none⟩ n, ?_, ?_⟩
    · simp only [execOp, resolve, invoke, builtin]
      rw [hsl] at hr
      simp [ev_of hx, ev_of hy, hr]
    · obtain ⟨f1, f2, f3⟩ := freeze_rest (w := w) (b := b) (n := n)
      refine Hp.call (m := [ownF e (some (b, c)) n (bytesV s.data.toList)]) hw (its_ownF (o := some (b, c)) ⟨by rw [Nat.mul_one]; exact hlen, .inr ⟨b, c, cur, fz', rfl, Nat.zero_le _, hf1, by rw [Nat.mul_one]; exact hf2, h2, h4, by rw [Nat.mul_one]; exact h5, by rw [Nat.mul_one]; exact h6⟩⟩ ⟨f1, f2, f3, Nat.le_of_eq freeze_size.symm, fun k _ hk => freeze_other fun e => hk ⟨c, by rw [e]⟩⟩ (fun b' c' h => .inr ⟨c', h⟩)) (fun k' _ hk => ⟨_, .head _, hk⟩))
end Go.Eng
