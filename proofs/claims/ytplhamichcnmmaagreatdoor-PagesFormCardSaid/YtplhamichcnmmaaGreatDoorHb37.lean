/- The plain law of the store: a disk that is new, and its format. -/
/- The document's pages (armariumref08): zero, Page, Has, Need, Abort; Full of armariumlaw04. -/
/- The document's pages (armariumref08): Page, with. -/
/- The document's pages (armariumref08): Has, set. -/
/- The document's pages (armariumref08): Put, Alloc, Free, Abort, Commit, New. -/
/- The document's pages (armariumref08): Alloc, Commit, New. -/
/- The plain law of the store: a store, and the document's. -/
import Derived.Test.YtplhamichcnmmaaGreatDoorHb36
namespace Go.Proofs.YtplhamichcnmmaaGreatDoor
open Go.Eng.Bm
set_option maxRecDepth 100000
def zero5 : Bys := List.replicate 512 0
theorem hd_zero : hdOk zero5 = false := by decide +kernel
theorem sht_zero : shtOk zero5 = false := by decide +kernel
theorem bm_zero : (List.range 512).map (fun j => UInt8.ofNat (byte (upd noU 0 true) j)) = 1 :: List.replicate 511 0 := by decide +kernel
theorem bm0_is (n : Nat) (h : 1 ≤ n) : bm0 n = 1 :: List.replicate 511 0 := by
  rw [← bm_zero]
  unfold bm0 bmB
  refine List.map_congr_left fun j _ => ?_
  have : trunc (upd noU 0 true) n = upd noU 0 true := funext fun i => by
    unfold trunc upd
    by_cases hi : i = 0
    · rw [if_pos hi, hi, Bool.and_true]; exact decide_eq_true (by omega)
    · rw [if_neg hi]; exact Bool.and_false _
  rw [this]
theorem bm0_ok (n : Nat) (h : 1 ≤ n) : BmIs n (bm0 n) (upd noU 0 true) := by
  refine ⟨rfl, fun j hj => ?_, rfl⟩
  unfold upd
  rw [if_neg (by omega)]; rfl
def V0 (n : Nat) : List Bys := (List.range n).map fun i => if i = 0 then bm0 n else zeroB
theorem V0_len (n : Nat) : (V0 n).length = n := by simp [V0]
theorem V0_at {n i : Nat} (h : i < n) : (V0 n)[i]? = some (if i = 0 then bm0 n else zeroB) := by
  unfold V0
  rw [List.getElem?_map, List.getElem?_range h]; rfl
theorem V0_512 {n : Nat} : ∀ p ∈ V0 n, p.length = 512 := fun p hp => by
  obtain ⟨i, -, rfl⟩ := List.mem_map.1 hp
  split
  · exact bmB_len _ _
  · exact List.length_replicate
theorem look_none {D : Dsk} (hw : D.wait = []) (h : ∀ i, i < 2 → D.on[i]? = some zero5) : lookN D 2 = (noHd, -1) := by
  have e : ∀ i, i < 2 → hdOk (curF D i) = false := fun i hi => by
    rw [Dsk.cur hw (h i hi)]; exact hd_zero
  unfold lookN lookN lookN lookF
  rw [e 0 (by decide), e 1 (by decide)]
  rfl
theorem sheets_none {D : Dsk} {n : Nat} (hw : D.wait = []) (h : ∀ i, i < n → D.on[2 + i]? = some zero5) : ∀ i, i < n → shtAt D n i = false := fun i hi => by
  unfold shtAt
  rw [Dsk.cur hw (h i hi), sht_zero]; rfl
theorem read_nil {D : Dsk} {n : Nat} (h : ∀ i, i < n → shtAt D n i = false) : ∀ i, i ≤ n → readSN D n i = []
  | 0, _ => rfl
  | i + 1, hi => by
    rw [readSN, if_neg (by rw [show (shtOk (curF D (2 + i)) && decide (placeF (shtT (curF D (2 + i))).seq n = 2 + i)) = shtAt D n i from rfl, h i (by omega)]; decide)]
    exact read_nil h i (by omega)
theorem newD_at {N i : Nat} (h : i < N) : (newD N).on[i]? = some zero5 := by
  show (List.replicate N (List.replicate 512 0))[i]? = _
  rw [List.getElem?_replicate, if_pos h]; rfl
theorem fmt_new {N log n : Nat} {note : Bys} (hN : N ≤ 4096) (hl1 : 1 ≤ log) (hlg : log ≤ 512) (hn1 : 64 ≤ n) (hn2 : n ≤ 1024) (hno : note.length ≤ 40) (hroom : 2 + log + n ≤ N) :
    (fmtF (newD N) log n note).1 = 0 ∧ (fmtF (newD N) log n note).2.Rest ∧ (fmtF (newD N) log n note).2.left = none ∧ (fmtF (newD N) log n note).2.keep = [] ∧ Siz (fmtF (newD N) log n note).2 n log note (V0 n) ∧ ∃ h, RecI (fmtF (newD N) log n note).2 n log note (V0 n) 1 h 1 [] := by
  have hr : (newD N).Rest := ⟨rfl, rfl⟩
  have hlen : (newD N).on.length = N := List.length_replicate
  have hok : (newD N).Ok := newD_ok hN
  have hws : wsOk (newD N) (wsFm log n) := fun p hp => by
    obtain ⟨i, hi, rfl⟩ := List.mem_map.1 hp
    have hi := List.mem_range.1 hi
    refine ⟨by show 2 + log + i < _; omega, ?_⟩
    show (if i = 0 then bm0 n else zeroB).length = 512
    split
    · exact bmB_len _ _
    · exact List.length_replicate
  have hout : ∀ i, i < 2 + log → ∀ p ∈ wsFm log n, p.1 ≠ i := fun i hi p hp => by
    obtain ⟨j, -, rfl⟩ := List.mem_map.1 hp
    show 2 + log + j ≠ i
    omega
  unfold fmtF
  rcases bat2 hr hws with ⟨e, hl, hon⟩ | ⟨-, hd, -⟩
  · have hok1 := bat_ok hok (wsFm log n)
    rw [if_pos e]
    generalize batF (newD N) (wsFm log n) = r at e hl hon hok1 ⊢
    have hlow : ∀ i, i < 2 + log → r.2.on[i]? = some zero5 := fun i hi => by
      rw [hon, setAll_get (hout i hi)]
      exact newD_at (by omega)
    have hlen1 : r.2.on.length = N := by rw [hon, setAll_len, hlen]
    have hpg : ∀ i, i < n → r.2.on[2 + log + i]? = (V0 n)[i]? := fun i hi => by
      rw [V0_at hi, hon, setAll_fun (fun j => if j - (2 + log) = 0 then bm0 n else zeroB) _ _ _ (by omega) fun p hp => by
        obtain ⟨j, -, rfl⟩ := List.mem_map.1 hp
        show _ = if 2 + log + j - (2 + log) = 0 then _ else _
        rw [show 2 + log + j - (2 + log) = j by omega]]
      have hmem : 2 + log + i ∈ (wsFm log n).map (·.1) := List.mem_map.2 ⟨_, List.mem_map.2 ⟨i, List.mem_range.2 hi, rfl⟩, rfl⟩
      rw [if_pos hmem, show 2 + log + i - (2 + log) = i by omega]
    have hlk : lookN r.2 2 = (noHd, -1) := look_none hl.rest.wait fun i hi => hlow i (by omega)
    have hsn := sheets_none (D := r.2) (n := log) hl.rest.wait fun i hi => hlow (2 + i) (by omega)
    have hrd := read_nil hsn log (Nat.le_refl _)
    have hnh : newHd r.2 log (beN 2 n ++ note) = ⟨1, 1, log, beN 2 n ++ note⟩ := by
      unfold newHd
      rw [hlk, ← toN_read, hrd]
      rfl
    have hh : Hd.Ok ⟨1, 1, log, beN 2 n ++ note⟩ := ⟨by show 1 < 18446744073709551616; decide, by show 1 < 18446744073709551616; decide, by show log < 65536; omega, by show (beN 2 n ++ note).length ≤ 64; rw [List.length_append, beN_length]; omega⟩
    rw [hlk, hnh, show otherF ((noHd, (-1 : Int)).2) = 1 from rfl, writeHF_bat]
    have hws2 : wsOk r.2 [(1, hdP ⟨1, 1, log, beN 2 n ++ note⟩)] := fun p hp => by
      rw [List.mem_singleton] at hp
      subst hp
      exact ⟨by show 1 < _; omega, hdP_len hh.note⟩
    rcases bat2 hl.rest hws2 with ⟨e2, hl2, hon2⟩ | ⟨-, hd2, -⟩
    · have hok2 := bat_ok hok1 [(1, hdP ⟨1, 1, log, beN 2 n ++ note⟩)]
      generalize batF r.2 [(1, hdP ⟨1, 1, log, beN 2 n ++ note⟩)] = r2 at e2 hl2 hon2 hok2 ⊢
      have hother : ∀ i, i ≠ 1 → r2.2.on[i]? = r.2.on[i]? := fun i hi => by
        rw [hon2]
        exact setAll_get fun p hp => by
          rw [List.mem_singleton] at hp
          subst hp
          exact hi.symm
      have hsn2 := sheets_none (D := r2.2) (n := log) hl2.rest.wait fun i hi => by rw [hother _ (by omega)]; exact hlow (2 + i) (by omega)
      have hrd2 := read_nil hsn2 log (Nat.le_refl _)
      refine ⟨e2, hl2.rest, hl2.left (hl.left rfl), hl2.keep.trans hl.keep, ⟨hn1, hn2, hl1, hlg, hno, by rw [hon2, setAll_len, hlen1]; exact hroom, V0_len n, V0_512, hok2⟩, _, ⟨⟨.inr rfl, hh, hl1, ?_, fun h0 => ?_, fun i hi hs => ?_, ?_, Nat.le_refl _⟩, rfl, rfl, Nat.le_refl _, ⟨(fun _ hh => (nomatch hh)), by decide⟩, fun i hi => ?_⟩⟩
      · rw [hon2]
        exact List.getElem?_set_self (by omega)
      · rw [List.getD_eq_getElem?_getD, hother 0 (by decide), hlow 0 (by omega)] at h0
        rw [show (some zero5).getD [] = zero5 from rfl, hd_zero] at h0
        cases h0
      · rw [hsn2 i hi] at hs
        cases hs
      · show openT r2.2 ⟨1, 1, log, beN 2 n ++ note⟩ = []
        unfold openT
        show textsF (readSN r2.2 log log) ((readSN r2.2 log log).length + 1) 1 [] [] = []
        rw [hrd2]
        rfl
      · rw [hother _ (by omega), hpg i hi]; rfl
    · exact absurd (hl.left rfl) hd2.left
  · exact absurd rfl hd.left
end Go.Proofs.YtplhamichcnmmaaGreatDoor

namespace Go.Proofs.YtplhamichcnmmaaGreatDoor
open Go.RowKit Go.Eng Go.Eng.Bm
set_option maxRecDepth 100000
set_option maxHeartbeats 40000000
def strV (s : Bys) : Value := .string ⟨s.toArray⟩
abbrev mC (b : Nat) (C : PR) : Eng.Item := mapN .i64 b (toG strV C)
abbrev wV (b c : Nat) (V : List Bys) (pm : Nat) : Value := .agg #[.slice (some ⟨b, 0, none⟩) V.length c, .map (some pm)]
theorem rzero_calls (w : World) : Pu Tryz.prog 84 #[] w (strV zeroB) := by
  refine pu_of [] Tryz.func84 rfl rfl ?_
  simp only [argSlots]
  refine goA ?_
  refine l_op rfl (o_maker rfl rfl rfl rfl rfl (by decide)) fun ⟨b1, hb1⟩ => ?_
  refine goA ?_
  refine l_w rfl (v_bstr (bs := zeroB) rfl rfl rfl rfl (fun w' hw' => .inr ⟨b1, 0, rfl, by have := rangeAt_pt (hw'.get (b := b1) (.head _)); rwa [zerosB] at this⟩)) ?_
  refine goA ?_
  exact x_pu rfl rfl rfl
theorem full_up (c : UInt8) {i : Nat} (h : i < 512) : (List.replicate i c ++ List.replicate (512 - i) 0).set i c = List.replicate (i + 1) c ++ List.replicate (512 - (i + 1)) (0 : UInt8) := by
  rw [List.set_append_right _ _ (by rw [List.length_replicate]; exact Nat.le_refl _), List.length_replicate, Nat.sub_self, show 512 - i = (512 - (i + 1)) + 1 by omega, List.replicate_succ, List.set_cons_zero, List.replicate_succ' (n := i), List.append_assoc]
  rfl
def fullB (c : UInt8) : Bys := List.replicate 512 c
theorem full_calls (c : UInt8) (w : World) : Ct Tryz.prog 32 #[.int .u8 (c.toNat : Int)] w none' (fun b : Nat => .slice (some ⟨b, 0, none⟩) 512 512) (fun _ => True) (fun b => [rdI b (fullB c)]) := by
  refine ct_of [_] Tryz.func32 rfl rfl ?_
  simp only [argSlots]
  refine goA ?_
  refine l_op rfl (o_maker rfl rfl rfl rfl rfl (by decide)) fun ⟨b1, hb1⟩ => ?_
  refine goA ?_
  refine t_for (α := Nat) (fun i => [(0, .int .u8 (c.toNat : Int)), (3, .slice (some ⟨b1, 0, none⟩) 512 512), (4, .int .i64 i)]) (fun i => i ≤ 512)
    (fun i => [pt b1 (.cells (bytesV (List.replicate i c ++ List.replicate (512 - i) 0)).toArray 5 (0, 0))]) (fun i => 512 - i) 0 ⟨rfl, rfl, rfl, trivial⟩ (Nat.zero_le _) (fun w' hw' => by
      have e : zerosL (.int .u8 0) (512 * 1) = bytesV (List.replicate 0 c ++ List.replicate (512 - 0) 0) := zerosB 512
      rw [← e]; exact hw') fun i hi => ?_
  by_cases hi2 : i < 512
  · have hup := full_up c hi2
    refine goA ?_
    refine l_op rfl (o_store1 rfl rfl rfl rfl rfl rfl (by rw [List.size_toArray, bytesV_length, List.length_append, List.length_replicate, List.length_replicate]; omega)) fun _ => ?_
    rw [Nat.zero_add, bytesV_set, hup]
    refine goA ?_
    exact x_round (i + 1) ⟨rfl, rfl, rfl, trivial⟩ hi2 (fun w' hw' => hw') (by omega)
  · obtain rfl : i = 512 := by omega
    refine goA ?_
    refine x_imp (m' := [rdI b1 (fullB c)]) (fun w' hw' => ?_) ?_
    · have e : List.replicate 512 c ++ List.replicate (512 - 512) (0 : UInt8) = fullB c := List.append_nil _
      rw [e] at hw'
      exact rd_of hw'
    · exact x_ct b1 rfl rfl rfl trivial (.refl _) (by intro it hm; rcases hm with _ | ⟨_, hm⟩; exact rdI_stable _ _; cases hm)
end Go.Proofs.YtplhamichcnmmaaGreatDoor

namespace Go.Proofs.YtplhamichcnmmaaGreatDoor
open Go.RowKit Go.Eng Go.Eng.Bm
set_option maxRecDepth 100000
set_option maxHeartbeats 40000000
def cpF (C : PR) : Nat → PR
  | 0 => []
  | k + 1 => (C.lookup k).elim (cpF C k) (insG (cpF C k) k)
theorem cpF_lookup (C : PR) (i : Nat) : ∀ n, (cpF C n).lookup i = if i < n then C.lookup i else none
  | 0 => rfl
  | k + 1 => by
    have ih := cpF_lookup C i k
    unfold cpF
    by_cases hik : i = k
    · subst hik
      rw [if_pos (Nat.lt_succ_self _)]
      cases hl : C.lookup i with
      | some x =>
        show (insG (cpF C i) i x).lookup i = _
        rw [insG_lookup, if_pos rfl]
      | none =>
        show (cpF C i).lookup i = none
        rw [ih, if_neg (Nat.lt_irrefl _)]
    · have e : (if i < k + 1 then C.lookup i else none) = if i < k then C.lookup i else none := by
        by_cases h : i < k
        · rw [if_pos h, if_pos (by omega)]
        · rw [if_neg h, if_neg (by omega)]
      rw [e, ← ih]
      cases C.lookup k with
      | some x =>
        show (insG (cpF C k) k x).lookup i = _
        rw [insG_lookup, if_neg hik]
      | none => rfl
theorem cpF_nodup (C : PR) : ∀ n, ((cpF C n).map (·.1)).Nodup
  | 0 => List.nodup_nil
  | k + 1 => by
    unfold cpF
    cases C.lookup k with
    | some x => exact insG_nodup (cpF_nodup C k)
    | none => exact cpF_nodup C k
def withF (n : Nat) (C : PR) (i : Nat) (s : Bys) : PR := insG (cpF C n) i s
end Go.Proofs.YtplhamichcnmmaaGreatDoor

namespace Go.Eng
open Go.RowKit
end Go.Eng
namespace Go.Proofs.YtplhamichcnmmaaGreatDoor
open Go.RowKit Go.Eng Go.Eng.Bm
set_option maxRecDepth 100000
set_option maxHeartbeats 40000000
end Go.Proofs.YtplhamichcnmmaaGreatDoor

namespace Go.Eng
open Go.RowKit
theorem t_own {P : Program} {cd : Code} {Q : Exit → Act → World → Prop} {N : Fm} {l : Slots} {w0 : World} {F : Nat → Prop} {m : List Item} {e : TypeId} {sz n : Nat} {o : Option (Nat × Nat)} {xs : List Value} (hn : 0 < n)
    (h : ∀ (b c : Nat) (cur : Array Value), o = some (b, c) → n ≤ c → cur.size = c * sz → cur.toList.take (n * sz) = xs → HT P cd Q N l (Hp w0 F (pt b (.cells cur e (0, 0)) :: m))) : HT P cd Q N l (Hp w0 F (own e sz o n xs :: m)) := by
  unfold HT at *
  intro a w s hw
  have hp := (hw.item (own e sz o n xs) (.head _)).1
  obtain ⟨h1, h2⟩ := hp
  cases o with
  | none => exact absurd h2 (by show ¬ n = 0; omega)
  | some p =>
    obtain ⟨b, c⟩ := p
    obtain ⟨h3, -, cur, h4, h5, h6⟩ := h2
    refine h b c cur rfl h3 h5 h6 a w s (hw.imp (fun k hk => ⟨c, by rw [show k = b from hk]⟩) (fun _ => h4) ((pt_stable _ _ _)))
end Go.Eng
namespace Go.Proofs.YtplhamichcnmmaaGreatDoor
open Go.RowKit Go.Eng Go.Eng.Bm
set_option maxRecDepth 100000
set_option maxHeartbeats 40000000
def rsI (b : Nat) (V : List Bys) : Eng.Item := ⟨fun k => k = b, fun w => w.rangeAt b 0 (strsV V) ∧ b < w.heap.size⟩
theorem rsI_stable (b : Nat) (V : List Bys) : (rsI b V).Stable none' := fun w w' h ⟨hp, hl⟩ => by
  have hb := h b (.inr rfl)
  refine ⟨fun j v hj => ?_, ?_⟩
  · rw [← hp j v hj]
    exact World.cell?_of_block (w := w) hb
  · rcases Nat.lt_or_ge b w'.heap.size with h1 | h1
    · exact h1
    · rw [Array.getElem?_eq_none h1] at hb
      rw [Array.getElem?_eq_getElem hl] at hb
      cases hb
theorem rs_of {b : Nat} {V : List Bys} {T : List Value} {E : TypeId} {w w0 : World} {F : Nat → Prop} {m : List Eng.Item} (h : Hp w0 F (pt b (.cells (strsV V ++ T).toArray E (0, 0)) :: m) w) : Hp w0 F (rsI b V :: m) w :=
  h.imp (fun _ h => h) (fun hp => ⟨by have := rangeAt_take (k := (strsV V).length) (rangeAt_pt hp); rwa [List.take_left] at this, (Array.getElem?_eq_some_iff.1 hp).1⟩) ((rsI_stable _ _).ro _)
end Go.Proofs.YtplhamichcnmmaaGreatDoor

namespace Go.Proofs.YtplhamichcnmmaaGreatDoor
open Go.RowKit Go.Eng Go.Eng.Bm
set_option maxRecDepth 100000
set_option maxHeartbeats 40000000
theorem strsV_len (V : List Bys) : (strsV V).length = V.length := List.length_map _
theorem strsV_set (V : List Bys) (i : Nat) (s : Bys) : (strsV V).set i (strV s) = strsV (V.set i s) := by
  unfold strsV
  rw [List.map_set]; rfl
theorem one_zero (n : Nat) (h : 0 < n) : Value.string (⟨#[1]⟩ ++ (⟨zeroB.toArray⟩ : ByteArray).extract 1 (⟨zeroB.toArray⟩ : ByteArray).size) = strV (bm0 n) := by
  rw [bm0_is n h]
  refine congrArg Value.string (ba_ext ?_)
  rw [ByteArray.data_append, Array.toList_append, drop_extract]
  show [1] ++ zeroB.drop 1 = 1 :: List.replicate 511 0
  unfold zeroB
  rw [List.drop_replicate]
  rfl
theorem zero_sz : (⟨zeroB.toArray⟩ : ByteArray).size = 512 := by show zeroB.toArray.size = 512; rw [List.size_toArray, zeroB, List.length_replicate]
theorem rnew_calls (n : Nat) (h0 : 0 < n) (hn : n ≤ 1000) (w : World) :
    Ct Tryz.prog 33 #[.int .i64 (n : Int)] w none' (fun y : Nat × Nat × Nat => wV y.1 y.2.1 (V0 n) y.2.2) (fun _ => True) (fun y => [rsI y.1 (V0 n), mC y.2.2 []]) := by
  refine ct_of [_] Tryz.func33 rfl rfl ?_
  have hrz := rzero_calls
  have hone := one_zero n h0
  have hz1 : (@OfNat.ofNat Nat 1 _) ≤ (⟨zeroB.toArray⟩ : ByteArray).size := by rw [zero_sz]; exact Nat.le_of_ble_eq_true rfl
  have hz2 : (⟨#[1]⟩ : ByteArray).size + ((⟨zeroB.toArray⟩ : ByteArray).extract 1 (⟨zeroB.toArray⟩ : ByteArray).size).size < 9223372036854775808 := by
    rw [ByteArray.size_extract, zero_sz]; show 1 + (min 512 512 - 1) < _; omega
  have hVn := V0_len n
  have hV0 : (strsV (List.replicate n zeroB)).set 0 (strV (bm0 n)) = strsV (V0 n) := by
    rw [strsV_set]
    congr 1
    apply List.ext_getElem?
    intro j
    rw [List.getElem?_set]
    by_cases hj : j < n
    · rw [V0_at hj, List.getElem?_replicate, if_pos hj]
      by_cases hj0 : 0 = j
      · subst hj0
        rw [if_pos rfl, if_pos (by rw [List.length_replicate]; exact h0), if_pos rfl]
      · rw [if_neg hj0, if_neg (fun h => hj0 h.symm)]
    · rw [if_neg (by omega), List.getElem?_eq_none (by rw [List.length_replicate]; omega), List.getElem?_eq_none (by omega)]
  generalize bm0 n = t at hV0 hone
  generalize V0 n = V at hV0 hVn ⊢
  generalize zeroB = z at hrz hone hz1 hz2 hV0
  simp only [argSlots]
  refine goA ?_
  refine l_alloca rfl rfl fun b2 hb2 => ?_
  refine goA ?_
  refine l_op rfl (o_makemapN (q := .i64) rfl) fun ⟨mb, hmb⟩ => ?_
  refine goA ?_
  refine l_alloca rfl rfl fun b3 hb3 => ?_
  refine goA ?_
  refine l_op rfl (o_storea (cs' := #[.slice none 0 0, .map (some mb)]) rfl rfl rfl rfl rfl rfl) fun _ => ?_
  refine goA ?_
  refine t_ownN 9 1 ?_
  refine t_for (α := Nat × Option (Nat × Nat)) (fun y => [(0, .int .i64 (n : Int)), (2, .pointer (some ⟨b2, 0, none⟩)), (3, .pointer (some ⟨b3, 0, none⟩)), (4, .int .i64 y.1)]) (fun y => y.1 ≤ n)
    (fun y => [own 9 1 y.2 y.1 (strsV (List.replicate y.1 z)), pt b3 (.cells #[slV y.2 y.1, .map (some mb)] 39 (0, 0)), mC mb [], pt b2 (.cells #[.slice none 0 0, .map none] 39 (0, 0))]) (fun y => n - y.1) (0, none) ⟨rfl, rfl, rfl, rfl, trivial⟩ (Nat.zero_le _) (fun w' hw' => hw') fun ⟨i, o⟩ hi => ?_
  simp only at hi ⊢
  by_cases hi2 : i < n
  · have hup : strsV (List.replicate (i + 1) z) = strsV (List.replicate i z) ++ [strV z] := by rw [List.replicate_succ', strsV, List.map_append]; rfl
    refine goA ?_
    refine t_drawm [1, 2, 3] 6 rfl rfl (by kernel_rfl) ?_
    (repeat first | (apply d_w [2] rfl rfl rfl (by kernel_rfl) (fun _ h => by first | exact h | exact Hp.sub h (.cons _ (.refl _)) | exact Hp.sub h (.cons _ (.cons _ (.refl _))) | exact Hp.sub h (.cons _ (.cons _ (.cons _ (.refl _)))) | exact Hp.sub h (.cons _ (.cons _ (.cons _ (.cons _ (.refl _))))) | exact Hp.sub h (.cons _ (.cons _ (.cons _ (.cons _ (.cons _ (.refl _)))))) | exact Hp.sub h (.cons _ (.cons _ (.cons _ (.cons _ (.cons _ (.cons _ (.refl _))))))) | exact Hp.sub h (.cons_cons _ (.cons_cons _ (List.nil_sublist _))) | exact Hp.sub h (.cons _ (.cons_cons _ (.cons_cons _ (List.nil_sublist _))))); focus (first | exact v_move rfl | exact v_assign rfl | exact v_bt rfl rfl | exact v_extract rfl rfl | exact v_field0 rfl rfl | exact v_field rfl rfl | exact v_lens rfl rfl | exact v_lenstr rfl rfl | exact v_nt rfl | exact v_load1p rfl rfl (by repeat first | exact .head _ | apply List.Mem.tail) | exact v_loadn rfl rfl (by repeat first | exact .head _ | apply List.Mem.tail) rfl | exact v_loadp rfl rfl (by repeat first | exact .head _ | apply List.Mem.tail) rfl | exact v_loada rfl rfl (by repeat first | exact .head _ | apply List.Mem.tail) | exact v_eqb rfl rfl rfl | exact v_slA rfl rfl rfl | exact v_builds rfl rfl rfl rfl rfl | exact v_eqs rfl rfl | exact v_nc rfl | exact v_caps rfl rfl | exact v_eqpn rfl rfl rfl | exact v_nepn rfl rfl rfl | exact v_neps rfl rfl rfl rfl | ((first | refine v_bn rfl rfl ?_ | refine v_is1 rfl rfl rfl ?_ | refine v_ia1 rfl rfl rfl ?_ | refine v_sa rfl rfl rfl ?_ | refine v_sF rfl rfl rfl ?_ | refine v_sT rfl rfl rfl ?_ | refine v_sFT rfl rfl rfl rfl ?_ | refine v_lF rfl rfl rfl rfl ?_ | refine v_is rfl rfl rfl ?_ | refine v_ia rfl rfl rfl ?_ | refine v_lT rfl rfl rfl rfl ?_ | refine v_cv rfl rfl rfl ?_ | refine v_slLH rfl rfl rfl rfl rfl ?_ | refine v_sl3 rfl rfl rfl rfl rfl ?_); first | omega | assumption) | exact v_pT rfl rfl (by first | omega | assumption | (simp; done) | exact fun h => h (by assumption) | fail) | exact v_pF rfl rfl (by first | omega | assumption | (simp; done) | exact fun h => h (by assumption) | fail) | exact v_pickB rfl rfl rfl)) | refine d_no [2] rfl rfl rfl (by kernel_rfl) (fun _ h => by first | exact h | exact Hp.sub h (.cons _ (.refl _)) | exact Hp.sub h (.cons _ (.cons _ (.refl _))) | exact Hp.sub h (.cons _ (.cons _ (.cons _ (.refl _)))) | exact Hp.sub h (.cons _ (.cons _ (.cons _ (.cons _ (.refl _))))) | exact Hp.sub h (.cons _ (.cons _ (.cons _ (.cons _ (.cons _ (.refl _)))))) | exact Hp.sub h (.cons _ (.cons _ (.cons _ (.cons _ (.cons _ (.cons _ (.refl _))))))) | exact Hp.sub h (.cons_cons _ (.cons_cons _ (List.nil_sublist _))) | exact Hp.sub h (.cons _ (.cons_cons _ (.cons_cons _ (List.nil_sublist _))))) ?_ | refine d_T [2] rfl rfl rfl rfl (by first | omega | assumption | (simp; done) | exact fun h => h (by assumption) | fail) ?_ | refine d_F [2] rfl rfl rfl rfl (by first | omega | assumption | (simp; done) | exact fun h => h (by assumption) | fail) ?_)
    refine d_opg 2 ⟨by kernel_rfl, by decide⟩ rfl rfl (o_pure rfl (by kernel_rfl) rfl (fun w1 hw1 => hrz w1)) (fun _ _ h => goH h) fun _ => ?_
    refine goE ?_
    refine d_opg 3 ⟨by kernel_rfl, by decide⟩ rfl rfl (o_buildslice (L := [(0, 1, strV z)]) rfl rfl rfl rfl rfl rfl) (fun _ _ h => goH h) fun ⟨bq, hbq⟩ => ?_
    refine goE ?_
    refine d_opg 4 ⟨by kernel_rfl, by decide⟩ rfl rfl (ho_perm (bring1 _ _ _) (o_append (news := [strV z]) rfl rfl rfl rfl rfl rfl rfl rfl (by omega) (fun w' hw' j v hj => by rw [add_at, Nat.zero_add]; exact own_rd (hw'.item _ (.tail _ (.head _))).1 j v hj))) (fun _ _ h => goH h) fun o' => ?_
    refine goE ?_
    refine d_tail ⟨by kernel_rfl, by kernel_rfl⟩ rfl rfl (ho_perm (bring2 _ _ _ _) (o_store1 rfl rfl rfl rfl (slV_cells1 _ _) (slV_one1 _ _) (show (0 : Nat) < 2 from by decide))) fun _ => ?_
    rw [← hup]
    refine goA ?_
    exact x_round (i + 1, o') ⟨rfl, rfl, rfl, rfl, trivial⟩ hi2 (fun w' hw' => hw'.pick [1, 0, 3, 4] rfl rfl) (by simp only; omega)
  · obtain rfl : i = n := by omega
    refine goA ?_
    refine t_own h0 fun bl cl cur ho hcl hcs hcu => ?_
    subst ho
    have hcur : cur = (strsV (List.replicate i z) ++ cur.toList.drop i).toArray := by
      rw [← hcu, Nat.mul_one, List.take_append_drop]
    generalize cur.toList.drop i = T at hcur
    rw [hcur]
    simp only [slV]
    refine t_drawm [0, 1, 2, 3] 6 rfl rfl (by kernel_rfl) ?_
    (repeat first | (apply d_w [2] rfl rfl rfl (by kernel_rfl) (fun _ h => by first | exact h | exact Hp.sub h (.cons _ (.refl _)) | exact Hp.sub h (.cons _ (.cons _ (.refl _))) | exact Hp.sub h (.cons _ (.cons _ (.cons _ (.refl _)))) | exact Hp.sub h (.cons _ (.cons _ (.cons _ (.cons _ (.refl _))))) | exact Hp.sub h (.cons _ (.cons _ (.cons _ (.cons _ (.cons _ (.refl _)))))) | exact Hp.sub h (.cons _ (.cons _ (.cons _ (.cons _ (.cons _ (.cons _ (.refl _))))))) | exact Hp.sub h (.cons_cons _ (.cons_cons _ (List.nil_sublist _))) | exact Hp.sub h (.cons _ (.cons_cons _ (.cons_cons _ (List.nil_sublist _))))); focus (first | exact v_move rfl | exact v_assign rfl | exact v_bt rfl rfl | exact v_extract rfl rfl | exact v_field0 rfl rfl | exact v_field rfl rfl | exact v_lens rfl rfl | exact v_lenstr rfl rfl | exact v_nt rfl | exact v_load1p rfl rfl (by repeat first | exact .head _ | apply List.Mem.tail) | exact v_loadn rfl rfl (by repeat first | exact .head _ | apply List.Mem.tail) rfl | exact v_loadp rfl rfl (by repeat first | exact .head _ | apply List.Mem.tail) rfl | exact v_loada rfl rfl (by repeat first | exact .head _ | apply List.Mem.tail) | exact v_eqb rfl rfl rfl | exact v_slA rfl rfl rfl | exact v_builds rfl rfl rfl rfl rfl | exact v_eqs rfl rfl | exact v_nc rfl | exact v_caps rfl rfl | exact v_eqpn rfl rfl rfl | exact v_nepn rfl rfl rfl | exact v_neps rfl rfl rfl rfl | ((first | refine v_bn rfl rfl ?_ | refine v_is1 rfl rfl rfl ?_ | refine v_ia1 rfl rfl rfl ?_ | refine v_sa rfl rfl rfl ?_ | refine v_sF rfl rfl rfl ?_ | refine v_sT rfl rfl rfl ?_ | refine v_sFT rfl rfl rfl rfl ?_ | refine v_lF rfl rfl rfl rfl ?_ | refine v_is rfl rfl rfl ?_ | refine v_ia rfl rfl rfl ?_ | refine v_lT rfl rfl rfl rfl ?_ | refine v_cv rfl rfl rfl ?_ | refine v_slLH rfl rfl rfl rfl rfl ?_ | refine v_sl3 rfl rfl rfl rfl rfl ?_); first | omega | assumption) | exact v_pT rfl rfl (by first | omega | assumption | (simp; done) | exact fun h => h (by assumption) | fail) | exact v_pF rfl rfl (by first | omega | assumption | (simp; done) | exact fun h => h (by assumption) | fail) | exact v_pickB rfl rfl rfl)) | refine d_no [2] rfl rfl rfl (by kernel_rfl) (fun _ h => by first | exact h | exact Hp.sub h (.cons _ (.refl _)) | exact Hp.sub h (.cons _ (.cons _ (.refl _))) | exact Hp.sub h (.cons _ (.cons _ (.cons _ (.refl _)))) | exact Hp.sub h (.cons _ (.cons _ (.cons _ (.cons _ (.refl _))))) | exact Hp.sub h (.cons _ (.cons _ (.cons _ (.cons _ (.cons _ (.refl _)))))) | exact Hp.sub h (.cons _ (.cons _ (.cons _ (.cons _ (.cons _ (.cons _ (.refl _))))))) | exact Hp.sub h (.cons_cons _ (.cons_cons _ (List.nil_sublist _))) | exact Hp.sub h (.cons _ (.cons_cons _ (.cons_cons _ (List.nil_sublist _))))) ?_ | refine d_T [2] rfl rfl rfl rfl (by first | omega | assumption | (simp; done) | exact fun h => h (by assumption) | fail) ?_ | refine d_F [2] rfl rfl rfl rfl (by first | omega | assumption | (simp; done) | exact fun h => h (by assumption) | fail) ?_)
    refine d_opg 2 ⟨by kernel_rfl, by decide⟩ rfl rfl (o_pure rfl (by kernel_rfl) rfl (fun w1 hw1 => hrz w1)) (fun _ _ h => goH h) fun _ => ?_
    refine goE ?_
    rw [hone]
    refine goE ?_
    refine d_tail ⟨by kernel_rfl, by kernel_rfl⟩ rfl rfl (o_store1 rfl rfl rfl rfl rfl rfl (show 0 + 0 < (strsV (List.replicate i z) ++ T).toArray.size from by rw [List.size_toArray, List.length_append, strsV_len, List.length_replicate]; omega)) fun _ => ?_
    rw [Nat.zero_add, List.setIfInBounds_toArray, List.set_append_left _ _ (by rw [strsV_len, List.length_replicate]; exact h0), hV0]
    refine goA ?_
    refine l_op rfl (ho_perm (bring3 _ _ _ _ _) (o_storea (cs' := #[.slice (some ⟨bl, 0, none⟩) i cl, .map (some mb)]) rfl rfl rfl rfl rfl rfl)) fun _ => ?_
    refine goA ?_
    refine x_imp (m' := [rsI bl V, mC mb [], pt b2 (.cells #[.slice (some ⟨bl, 0, none⟩) i cl, .map (some mb)] 39 (0, 0))]) (fun w' hw' => rs_of (hw'.pick [1, 3, 0] rfl rfl)) ?_
    rw [show (Value.slice (some ⟨bl, 0, none⟩) i cl) = .slice (some ⟨bl, 0, none⟩) V.length cl by rw [hVn]]
    exact x_ct (bl, cl, mb) rfl ⟨_, rfl, loada_run rfl (.tail _ (.tail _ (.head _)))⟩ rfl trivial (.cons_cons _ (.cons_cons _ (List.nil_sublist _))) (by intro it hm; rcases hm with _ | ⟨_, _ | ⟨_, hm⟩⟩; exact rsI_stable _ _; exact mapN_stable _ _ _ _; cases hm)
end Go.Proofs.YtplhamichcnmmaaGreatDoor

namespace Go.Proofs.YtplhamichcnmmaaGreatDoor
open Go.Eng.Bm
set_option maxRecDepth 100000
structure StX (s : Pg) (D : Dsk) (n secs : Nat) (note : Bys) (V : List Bys) (C : PR) (B : Nat) : Prop where
  st : StV s D n secs note V B
  eC : ∀ i, C.lookup i = s.C.lookup i
  hCn : (C.map (·.1)).Nodup
  keep : D.keep.length ≤ 1000000
  p0 : ∃ S, BmIs n (V.getD 0 []) S
  c0 : ∀ b, s.C.lookup 0 = some b → ∃ S, BmIs n b S
theorem nodup_at {A : PR} (hn : (A.map (·.1)).Nodup) {p : Nat × Bys} (hp : p ∈ A) : A.lookup p.1 = some p.2 := by
  induction A with
  | nil => cases hp
  | cons q A ih =>
    rw [List.map_cons, List.nodup_cons] at hn
    rw [List.lookup_cons]
    rcases List.mem_cons.1 hp with rfl | hp
    · simp
    · have : p.1 ≠ q.1 := fun h => hn.1 (h ▸ List.mem_map.2 ⟨p, hp, rfl⟩)
      rw [show (p.1 == q.1) = false by simpa using this]
      exact ih hn.2 hp
namespace StX
variable {s : Pg} {D : Dsk} {n secs : Nat} {note : Bys} {V : List Bys} {C : PR} {B : Nat}
theorem len (h : StX s D n secs note V C B) : V.length = n := by obtain ⟨TS, h1⟩ := h.st; exact h1.siz.Vl
theorem Cok (h : StX s D n secs note V C B) : C.Ok n := fun p hp => by
  obtain ⟨TS, h1⟩ := h.st
  have := nodup_at h.hCn hp
  rw [h.eC] at this
  exact h1.Cok _ (lookup_memG this)
theorem many (h : StX s D n secs note V C B) : C.length = s.C.length := by
  obtain ⟨TS, h1⟩ := h.st
  exact rows_same h.eC h.hCn h1.Cn
theorem le (h : StX s D n secs note V C B) : C.length ≤ n := keys_le h.Cok h.hCn
theorem view (h : StX s D n secs note V C B) (i : Nat) : viewF V C i = viewF V s.C i := by unfold viewF; rw [h.eC]
theorem pageB (h : StX s D n secs note V C B) {i : Nat} (hi : i < n) : pageB s D i = viewF V C i := by
  obtain ⟨TS, h1⟩ := h.st
  rw [h1.view hi, h.view]
theorem page (h : StX s D n secs note V C B) {i : Nat} (hi : i < n) : StX (pageS s D i) D n secs note V C B := by
  obtain ⟨TS, h1⟩ := h.st
  exact ⟨⟨TS, h1.page hi⟩, by rw [pageS_C]; exact h.eC, h.hCn, h.keep, h.p0, by rw [pageS_C]; exact h.c0⟩
theorem bm (h : StX s D n secs note V C B) : ∃ S, BmIs n (viewF V C 0) S := by
  rw [h.view]
  unfold viewF
  cases hc : s.C.lookup 0 with
  | some b => exact h.c0 b hc
  | none => exact h.p0
theorem with_lookup (h : StX s D n secs note V C B) (i : Nat) (b : Bys) (j : Nat) : (withF V.length C i b).lookup j = if j = i then some b else C.lookup j := by
  unfold withF
  rw [insG_lookup, cpF_lookup]
  split
  · rfl
  · split
    · rfl
    · rename_i h1 h2
      cases hc : C.lookup j with
      | none => rfl
      | some x =>
        have := (h.Cok _ (lookup_memG hc)).1
        rw [h.len] at h2
        exact absurd this h2
theorem ins (h : StX s D n secs note V C B) {i : Nat} {b : Bys} (hi : i < n) (hb : b.length = 512) (h0 : i = 0 → ∃ S, BmIs n b S) : StX { s with C := insG s.C i b } D n secs note V (withF V.length C i b) B := by
  obtain ⟨TS, h1⟩ := h.st
  refine ⟨⟨TS, h1.ins hi hb⟩, fun j => ?_, insG_nodup (cpF_nodup _ _), h.keep, h.p0, fun x hx => ?_⟩
  · rw [h.with_lookup]
    show _ = (insG s.C i b).lookup j
    rw [insG_lookup, h.eC]
  · have hx : (insG s.C i b).lookup 0 = some x := hx
    rw [insG_lookup] at hx
    split at hx
    · rename_i h2
      cases hx
      exact h0 h2.symm
    · exact h.c0 x hx
theorem over (h : StX s D n secs note V C B) : overV V C = overV V s.C := overV_ext h.eC
theorem over0 (h : StX s D n secs note V C B) (h0 : 0 < n) : ∃ S, BmIs n ((overV V C).getD 0 []) S := by
  rw [over_view (by rw [h.len]; exact h0)]
  exact h.bm
theorem more (h : StX s D n secs note V C B) {B' : Nat} (hB : B ≤ B') : StX s D n secs note V C B' := by
  obtain ⟨TS, h1⟩ := h.st
  exact ⟨⟨TS, h1.more hB⟩, h.eC, h.hCn, h.keep, h.p0, h.c0⟩
theorem siz (h : StX s D n secs note V C B) : Siz D n secs note V := by obtain ⟨TS, h1⟩ := h.st; exact h1.siz
theorem rest (h : StX s D n secs note V C B) : D.Rest := by obtain ⟨TS, h1⟩ := h.st; exact h1.rest
theorem ok (h : StX s D n secs note V C B) : s.Ok D := by obtain ⟨TS, h1⟩ := h.st; exact h1.ok
theorem dead (h : StX s D n secs note V C B) : s.dead = false := by obtain ⟨TS, h1⟩ := h.st; exact h1.dead
theorem hn (h : StX s D n secs note V C B) : s.n = n := by obtain ⟨TS, h1⟩ := h.st; exact h1.hn
theorem wait (h : StX s D n secs note V C B) : D.wait.length ≤ 10000 := by rw [h.rest.wait]; decide
theorem need (h : StX s D n secs note V C B) (h0 : s.C ≠ []) : needF (tC s).length = (514 * C.length + 496) / 497 := by
  obtain ⟨TS, h1⟩ := h.st
  rw [needC h1.Cok h0, h.many]
theorem commit (h : StX s D n secs note V C B) (hB : B + 700 < 9223372036854775808) (hC0 : s.C ≠ []) (hneed : (514 * C.length + 496) / 497 ≤ secs) :
    ((cmF s D).1 = 0 ∧ Lives D (cmF s D).2.1 ∧ ∀ x, kepsG (cmF s D).2.2 x → StX (cmR s D x) (cmF s D).2.1 n secs note (overV V C) [] (B + 601)) ∨
    ((cmF s D).1 = 4 ∧ D.left ≠ none ∧ (Off (cmF s D).2.1 n secs note V (B + 601) ∨ Off (cmF s D).2.1 n secs note (overV V C) (B + 601))) := by
  have hn0 : 0 < n := by have := h.siz.n1; omega
  rcases cm_step h.st hB hC0 (by rw [h.need hC0]; exact hneed) with ⟨e, hl, hx⟩ | ⟨e, hd⟩
  · left
    refine ⟨e, hl, fun x hk => ?_⟩
    have := hx x hk
    have hcm : (cmR s D x).C = [] := by unfold cmR; rw [if_pos e]
    refine ⟨by rw [h.over]; exact this, fun i => by rw [hcm], List.nodup_nil, by rw [hl.keep]; exact h.keep, h.over0 hn0, fun b hb => by rw [hcm] at hb; cases hb⟩
  · right
    rw [← h.over] at hd
    refine ⟨e, ?_, ?_⟩
    · rcases hd with hd | hd
      · exact hd.1.left
      · exact hd.1.left
    · exact hd.imp (fun h => h.off) (fun h => h.off)
end StX
end Go.Proofs.YtplhamichcnmmaaGreatDoor
