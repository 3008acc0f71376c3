/- The plain law of the store: a disk that is new, and its format. -/
/- The document's pages (armariumref08): zero, Page, Has, Need, Abort; Full of armariumlaw04. -/
/- The document's pages (armariumref08): Page, with. -/
/- The document's pages (armariumref08): Has, set. -/
import Derived.Test.YtplhamichcnmmaaGreatDoorHc36
namespace Go.Proofs.YtplhamichcnmmaaGreatDoor
open Go.Eng.Bm
set_option maxRecDepth 100000
def zero5 : Bys := List.replicate 512 0
theorem hd_zero : hdOk zero5 = false := by decide +kernel
theorem sht_zero : shtOk zero5 = false := by decide +kernel
theorem bm_zero : (List.range 512).map (fun j => UInt8.ofNat (byte (upd noU 0 true) j)) = 1 :: List.replicate 511 0 := by decide +kernel
theorem bm0_is (n : Nat) (h : 1 ≤ n) : bm0 n = 1 :: List.replicate 511 0 := by
  rw [← bm_zero]
  unfold bm0 bmB
  refine List.map_congr_left fun j _ => ?_
  have : trunc (upd noU 0 true) n = upd noU 0 true := funext fun i => by
    unfold trunc upd
    by_cases hi : i = 0
    · rw [if_pos hi, hi, Bool.and_true]; exact decide_eq_true (by omega)
    · rw [if_neg hi]; exact Bool.and_false _
  rw [this]
theorem bm0_ok (n : Nat) (h : 1 ≤ n) : BmIs n (bm0 n) (upd noU 0 true) := by
  refine ⟨rfl, fun j hj => ?_, rfl⟩
  unfold upd
  rw [if_neg (by omega)]; rfl
def V0 (n : Nat) : List Bys := (List.range n).map fun i => if i = 0 then bm0 n else zeroB
theorem V0_len (n : Nat) : (V0 n).length = n := by simp [V0]
theorem V0_at {n i : Nat} (h : i < n) : (V0 n)[i]? = some (if i = 0 then bm0 n else zeroB) := by
  unfold V0
  rw [List.getElem?_map, List.getElem?_range h]; rfl
theorem V0_512 {n : Nat} : ∀ p ∈ V0 n, p.length = 512 := fun p hp => by
  obtain ⟨i, -, rfl⟩ := List.mem_map.1 hp
  split
  · exact bmB_len _ _
  · exact List.length_replicate
theorem look_none {D : Dsk} (hw : D.wait = []) (h : ∀ i, i < 2 → D.on[i]? = some zero5) : lookN D 2 = (noHd, -1) := by
  have e : ∀ i, i < 2 → hdOk (curF D i) = false := fun i hi => by
    rw [Dsk.cur hw (h i hi)]; exact hd_zero
  unfold lookN lookN lookN lookF
  rw [e 0 (by decide), e 1 (by decide)]
  rfl
theorem sheets_none {D : Dsk} {n : Nat} (hw : D.wait = []) (h : ∀ i, i < n → D.on[2 + i]? = some zero5) : ∀ i, i < n → shtAt D n i = false := fun i hi => by
  unfold shtAt
  rw [Dsk.cur hw (h i hi), sht_zero]; rfl
theorem read_nil {D : Dsk} {n : Nat} (h : ∀ i, i < n → shtAt D n i = false) : ∀ i, i ≤ n → readSN D n i = []
  | 0, _ => rfl
  | i + 1, hi => by
    rw [readSN, if_neg (by rw [show (shtOk (curF D (2 + i)) && decide (placeF (shtT (curF D (2 + i))).seq n = 2 + i)) = shtAt D n i from rfl, h i (by omega)]; decide)]
    exact read_nil h i (by omega)
theorem newD_at {N i : Nat} (h : i < N) : (newD N).on[i]? = some zero5 := by
  show (List.replicate N (List.replicate 512 0))[i]? = _
  rw [List.getElem?_replicate, if_pos h]; rfl
theorem fmt_new {N log n : Nat} {note : Bys} (hN : N ≤ 4096) (hl1 : 1 ≤ log) (hlg : log ≤ 512) (hn1 : 64 ≤ n) (hn2 : n ≤ 1024) (hno : note.length ≤ 40) (hroom : 2 + log + n ≤ N) :
    (fmtF (newD N) log n note).1 = 0 ∧ (fmtF (newD N) log n note).2.Rest ∧ (fmtF (newD N) log n note).2.left = none ∧ (fmtF (newD N) log n note).2.keep = [] ∧ Siz (fmtF (newD N) log n note).2 n log note (V0 n) ∧ ∃ h, RecI (fmtF (newD N) log n note).2 n log note (V0 n) 1 h 1 [] := by
  have hr : (newD N).Rest := ⟨rfl, rfl⟩
  have hlen : (newD N).on.length = N := List.length_replicate
  have hok : (newD N).Ok := newD_ok hN
  have hws : wsOk (newD N) (wsFm log n) := fun p hp => by
    obtain ⟨i, hi, rfl⟩ := List.mem_map.1 hp
    have hi := List.mem_range.1 hi
    refine ⟨by show 2 + log + i < _; omega, ?_⟩
    show (if i = 0 then bm0 n else zeroB).length = 512
    split
    · exact bmB_len _ _
    · exact List.length_replicate
  have hout : ∀ i, i < 2 + log → ∀ p ∈ wsFm log n, p.1 ≠ i := fun i hi p hp => by
    obtain ⟨j, -, rfl⟩ := List.mem_map.1 hp
    show 2 + log + j ≠ i
    omega
  unfold fmtF
  rcases bat2 hr hws with ⟨e, hl, hon⟩ | ⟨-, hd, -⟩
  · have hok1 := bat_ok hok (wsFm log n)
    rw [if_pos e]
    generalize batF (newD N) (wsFm log n) = r at e hl hon hok1 ⊢
    have hlow : ∀ i, i < 2 + log → r.2.on[i]? = some zero5 := fun i hi => by
      rw [hon, setAll_get (hout i hi)]
      exact newD_at (by omega)
    have hlen1 : r.2.on.length = N := by rw [hon, setAll_len, hlen]
    have hpg : ∀ i, i < n → r.2.on[2 + log + i]? = (V0 n)[i]? := fun i hi => by
      rw [V0_at hi, hon, setAll_fun (fun j => if j - (2 + log) = 0 then bm0 n else zeroB) _ _ _ (by omega) fun p hp => by
        obtain ⟨j, -, rfl⟩ := List.mem_map.1 hp
        show _ = if 2 + log + j - (2 + log) = 0 then _ else _
        rw [show 2 + log + j - (2 + log) = j by omega]]
      have hmem : 2 + log + i ∈ (wsFm log n).map (·.1) := List.mem_map.2 ⟨_, List.mem_map.2 ⟨i, List.mem_range.2 hi, rfl⟩, rfl⟩
      rw [if_pos hmem, show 2 + log + i - (2 + log) = i by omega]
    have hlk : lookN r.2 2 = (noHd, -1) := look_none hl.rest.wait fun i hi => hlow i (by omega)
    have hsn := sheets_none (D := r.2) (n := log) hl.rest.wait fun i hi => hlow (2 + i) (by omega)
    have hrd := read_nil hsn log (Nat.le_refl _)
    have hnh : newHd r.2 log (beN 2 n ++ note) = ⟨1, 1, log, beN 2 n ++ note⟩ := by
      unfold newHd
      rw [hlk, ← toN_read, hrd]
      rfl
    have hh : Hd.Ok ⟨1, 1, log, beN 2 n ++ note⟩ := ⟨by show 1 < 18446744073709551616; decide, by show 1 < 18446744073709551616; decide, by show log < 65536; omega, by show (beN 2 n ++ note).length ≤ 64; rw [List.length_append, beN_length]; omega⟩
    rw [hlk, hnh, show otherF ((noHd, (-1 : Int)).2) = 1 from rfl, writeHF_bat]
    have hws2 : wsOk r.2 [(1, hdP ⟨1, 1, log, beN 2 n ++ note⟩)] := fun p hp => by
      rw [List.mem_singleton] at hp
      subst hp
      exact ⟨by show 1 < _; omega, hdP_len hh.note⟩
    rcases bat2 hl.rest hws2 with ⟨e2, hl2, hon2⟩ | ⟨-, hd2, -⟩
    · have hok2 := bat_ok hok1 [(1, hdP ⟨1, 1, log, beN 2 n ++ note⟩)]
      generalize batF r.2 [(1, hdP ⟨1, 1, log, beN 2 n ++ note⟩)] = r2 at e2 hl2 hon2 hok2 ⊢
      have hother : ∀ i, i ≠ 1 → r2.2.on[i]? = r.2.on[i]? := fun i hi => by
        rw [hon2]
        exact setAll_get fun p hp => by
          rw [List.mem_singleton] at hp
          subst hp
          exact hi.symm
      have hsn2 := sheets_none (D := r2.2) (n := log) hl2.rest.wait fun i hi => by rw [hother _ (by omega)]; exact hlow (2 + i) (by omega)
      have hrd2 := read_nil hsn2 log (Nat.le_refl _)
      refine ⟨e2, hl2.rest, hl2.left (hl.left rfl), hl2.keep.trans hl.keep, ⟨hn1, hn2, hl1, hlg, hno, by rw [hon2, setAll_len, hlen1]; exact hroom, V0_len n, V0_512, hok2⟩, _, ⟨⟨.inr rfl, hh, hl1, ?_, fun h0 => ?_, fun i hi hs => ?_, ?_, Nat.le_refl _⟩, rfl, rfl, Nat.le_refl _, ⟨(fun _ hh => (nomatch hh)), by decide⟩, fun i hi => ?_⟩⟩
      · rw [hon2]
        exact List.getElem?_set_self (by omega)
      · rw [List.getD_eq_getElem?_getD, hother 0 (by decide), hlow 0 (by omega)] at h0
        rw [show (some zero5).getD [] = zero5 from rfl, hd_zero] at h0
        cases h0
      · rw [hsn2 i hi] at hs
        cases hs
      · show openT r2.2 ⟨1, 1, log, beN 2 n ++ note⟩ = []
        unfold openT
        show textsF (readSN r2.2 log log) ((readSN r2.2 log log).length + 1) 1 [] [] = []
        rw [hrd2]
        rfl
      · rw [hother _ (by omega), hpg i hi]; rfl
    · exact absurd (hl.left rfl) hd2.left
  · exact absurd rfl hd.left
end Go.Proofs.YtplhamichcnmmaaGreatDoor

namespace Go.Proofs.YtplhamichcnmmaaGreatDoor
open Go.RowKit Go.Eng Go.Eng.Bm
set_option maxRecDepth 100000
set_option maxHeartbeats 40000000
def strV (s : Bys) : Value := .string ⟨s.toArray⟩
abbrev mC (b : Nat) (C : PR) : Eng.Item := mapN .i64 b (toG strV C)
abbrev wV (b c : Nat) (V : List Bys) (pm : Nat) : Value := .agg #[.slice (some ⟨b, 0, none⟩) V.length c, .map (some pm)]
theorem rzero_calls (w : World) : Pu Tryz.prog 84 #[] w (strV zeroB) := by
  refine pu_of [] Tryz.func84 rfl rfl ?_
  simp only [argSlots]
  refine goA ?_
  refine l_op rfl (o_maker rfl rfl rfl rfl rfl (by decide)) fun ⟨b1, hb1⟩ => ?_
  refine goA ?_
  refine l_w rfl (v_bstr (bs := zeroB) rfl rfl rfl rfl (fun w' hw' => .inr ⟨b1, 0, rfl, by have := rangeAt_pt (hw'.get (b := b1) (.head _)); rwa [zerosB] at this⟩)) ?_
  refine goA ?_
  exact x_pu rfl rfl rfl
theorem full_up (c : UInt8) {i : Nat} (h : i < 512) : (List.replicate i c ++ List.replicate (512 - i) 0).set i c = List.replicate (i + 1) c ++ List.replicate (512 - (i + 1)) (0 : UInt8) := by
  rw [List.set_append_right _ _ (by rw [List.length_replicate]; exact Nat.le_refl _), List.length_replicate, Nat.sub_self, show 512 - i = (512 - (i + 1)) + 1 by omega, List.replicate_succ, List.set_cons_zero, List.replicate_succ' (n := i), List.append_assoc]
  rfl
def fullB (c : UInt8) : Bys := List.replicate 512 c
theorem full_calls (c : UInt8) (w : World) : Ct Tryz.prog 32 #[.int .u8 (c.toNat : Int)] w none' (fun b : Nat => .slice (some ⟨b, 0, none⟩) 512 512) (fun _ => True) (fun b => [rdI b (fullB c)]) := by
  refine ct_of [_] Tryz.func32 rfl rfl ?_
  simp only [argSlots]
  refine goA ?_
  refine l_op rfl (o_maker rfl rfl rfl rfl rfl (by decide)) fun ⟨b1, hb1⟩ => ?_
  refine goA ?_
  refine t_for (α := Nat) (fun i => [(0, .int .u8 (c.toNat : Int)), (3, .slice (some ⟨b1, 0, none⟩) 512 512), (4, .int .i64 i)]) (fun i => i ≤ 512)
    (fun i => [pt b1 (.cells (bytesV (List.replicate i c ++ List.replicate (512 - i) 0)).toArray 5 (0, 0))]) (fun i => 512 - i) 0 ⟨rfl, rfl, rfl, trivial⟩ (Nat.zero_le _) (fun w' hw' => by
      have e : zerosL (.int .u8 0) (512 * 1) = bytesV (List.replicate 0 c ++ List.replicate (512 - 0) 0) := zerosB 512
      rw [← e]; exact hw') fun i hi => ?_
  by_cases hi2 : i < 512
  · have hup := full_up c hi2
    refine goA ?_
    refine l_op rfl (o_store1 rfl rfl rfl rfl rfl rfl (by rw [List.size_toArray, bytesV_length, List.length_append, List.length_replicate, List.length_replicate]; omega)) fun _ => ?_
    rw [Nat.zero_add, bytesV_set, hup]
    refine goA ?_
    exact x_round (i + 1) ⟨rfl, rfl, rfl, trivial⟩ hi2 (fun w' hw' => hw') (by omega)
  · obtain rfl : i = 512 := by omega
    refine goA ?_
    refine x_imp (m' := [rdI b1 (fullB c)]) (fun w' hw' => ?_) ?_
    · have e : List.replicate 512 c ++ List.replicate (512 - 512) (0 : UInt8) = fullB c := List.append_nil _
      rw [e] at hw'
      exact rd_of hw'
    · exact x_ct b1 rfl rfl rfl trivial (.refl _) (by intro it hm; rcases hm with _ | ⟨_, hm⟩; exact rdI_stable _ _; cases hm)
theorem rneed_calls (b c : Nat) (V : List Bys) (pm : Nat) (C : PR) (hC : C.length ≤ 1000000) (w : World) (h : Here (mC pm C) w) : Pu Tryz.prog 37 #[wV b c V pm] w (.int .i64 ((514 * C.length + 496) / 497 : Nat)) := by
  refine pu_of [_] Tryz.func37 rfl rfl ?_
  have hl : (toG strV C).length = C.length := List.length_map _
  simp only [argSlots]
  refine goA ?_
  refine l_boxa rfl rfl fun b1 hb1 => ?_
  refine goA ?_
  refine l_w rfl (v_lenmapP (A := toG strV C) rfl rfl (fun w' hw' => (h.keep hw').1)) ?_
  rw [hl]
  refine goA ?_
  exact x_pu rfl rfl rfl
end Go.Proofs.YtplhamichcnmmaaGreatDoor

namespace Go.Proofs.YtplhamichcnmmaaGreatDoor
open Go.RowKit Go.Eng Go.Eng.Bm
set_option maxRecDepth 100000
set_option maxHeartbeats 40000000
theorem rpage_bad (b c : Nat) (V : List Bys) (pm : Nat) (i : Int) (hi : i < 0 ∨ (V.length : Int) ≤ i) (w : World) : Pu Tryz.prog 39 #[wV b c V pm, .int .i64 i] w (.tuple #[strV [], .int .i64 2]) := by
  refine pu_of [_, _] Tryz.func39 rfl rfl ?_
  simp only [argSlots, Nat.reduceAdd]
  refine goA ?_
  refine l_boxa rfl rfl fun b2 hb2 => ?_
  refine goA ?_
  by_cases h0 : i < 0
  · refine goA ?_
    exact x_pu2 rfl rfl rfl rfl
  · have h1 : (V.length : Int) ≤ i := by omega
    refine goA ?_
    exact x_pu2 rfl rfl rfl rfl
theorem strV_at {V : List Bys} {i : Nat} (h : i < V.length) : (strsV V)[i]? = some (strV (V.getD i [])) := by
  unfold strsV
  rw [List.getElem?_map, List.getElem?_eq_getElem h, List.getD_eq_getElem?_getD, List.getElem?_eq_getElem h]; rfl
theorem rpage_ok (b c : Nat) (V : List Bys) (pm : Nat) (C : PR) (i : Nat) (hi : i < V.length) (hn : V.length ≤ 1000) (w : World) (hV : Rd w (some ⟨b, 0, none⟩) (strsV V)) (hC : Here (mC pm C) w) :
    Pu Tryz.prog 39 #[wV b c V pm, .int .i64 (i : Int)] w (.tuple #[strV (viewF V C i), .int .i64 0]) := by
  refine pu_of [_, _] Tryz.func39 rfl rfl ?_
  simp only [argSlots, Nat.reduceAdd]
  refine goA ?_
  refine l_boxa rfl rfl fun b2 hb2 => ?_
  refine goA ?_
  refine l_w rfl (v_lookP (q := .i64) (h := i) (A := toG strV C) rfl rfl rfl rfl rfl (okI (by omega)) (fun w' hw' => (hC.keep hw').1)) ?_
  rw [toG_lookup]
  unfold viewF
  cases hb : C.lookup i with
  | some s =>
    simp only [Option.map_some, Option.getD_some, Option.isSome_some]
    refine goA ?_
    exact x_pu2 rfl rfl rfl rfl
  | none =>
    have hat := strV_at hi
    simp only [Option.map_none, Option.getD_none, Option.isSome_none]
    generalize V.getD i [] = t at hat ⊢
    refine goA ?_
    refine l_w rfl (v_load (v := strV t) rfl rfl (fun w' hw' => by
      rcases hV.keep hw' with h | ⟨b', off, he, h⟩
      · rw [h] at hat; cases hat
      · cases he
        have := h i _ hat
        simpa using this)) ?_
    refine goA ?_
    exact x_pu2 rfl rfl rfl rfl
def cpF (C : PR) : Nat → PR
  | 0 => []
  | k + 1 => (C.lookup k).elim (cpF C k) (insG (cpF C k) k)
theorem cpF_lookup (C : PR) (i : Nat) : ∀ n, (cpF C n).lookup i = if i < n then C.lookup i else none
  | 0 => rfl
  | k + 1 => by
    have ih := cpF_lookup C i k
    unfold cpF
    by_cases hik : i = k
    · subst hik
      rw [if_pos (Nat.lt_succ_self _)]
      cases hl : C.lookup i with
      | some x =>
        show (insG (cpF C i) i x).lookup i = _
        rw [insG_lookup, if_pos rfl]
      | none =>
        show (cpF C i).lookup i = none
        rw [ih, if_neg (Nat.lt_irrefl _)]
    · have e : (if i < k + 1 then C.lookup i else none) = if i < k then C.lookup i else none := by
        by_cases h : i < k
        · rw [if_pos h, if_pos (by omega)]
        · rw [if_neg h, if_neg (by omega)]
      rw [e, ← ih]
      cases C.lookup k with
      | some x =>
        show (insG (cpF C k) k x).lookup i = _
        rw [insG_lookup, if_neg hik]
      | none => rfl
theorem cpF_nodup (C : PR) : ∀ n, ((cpF C n).map (·.1)).Nodup
  | 0 => List.nodup_nil
  | k + 1 => by
    unfold cpF
    cases C.lookup k with
    | some x => exact insG_nodup (cpF_nodup C k)
    | none => exact cpF_nodup C k
def withF (n : Nat) (C : PR) (i : Nat) (s : Bys) : PR := insG (cpF C n) i s
theorem with_calls (b c : Nat) (V : List Bys) (pm : Nat) (C : PR) (i : Nat) (hi : i ≤ 1000) (s : Bys) (hn : V.length ≤ 1000) (w : World) (hC : Here (mC pm C) w) :
    Ct Tryz.prog 85 #[wV b c V pm, .int .i64 (i : Int), strV s] w none' (fun pm' : Nat => wV b c V pm') (fun _ => True) (fun pm' => [mC pm' (withF V.length C i s)]) := by
  refine ct_of [_, _, _] Tryz.func85 rfl rfl ?_
  simp only [argSlots, Nat.reduceAdd]
  refine goA ?_
  refine l_boxa rfl rfl fun b3 hb3 => ?_
  refine goA ?_
  refine l_alloca rfl rfl fun b6 hb6 => ?_
  refine goA ?_
  refine l_op rfl (o_makemapN (q := .i64) rfl) fun ⟨mb, hmb⟩ => ?_
  refine goA ?_
  refine t_for (α := Nat) (fun k => [(1, .int .i64 (i : Int)), (2, strV s), (3, .pointer (some ⟨b3, 0, none⟩)), (6, .pointer (some ⟨b6, 0, none⟩)), (7, .map (some mb)), (8, .int .i64 k)]) (fun k => k ≤ V.length)
    (fun k => [mC mb (cpF C k), pt b6 (.cells #[.slice none 0 0, .map none] 39 (0, 0)), pt b3 (.cells #[.slice (some ⟨b, 0, none⟩) V.length c, .map (some pm)] 39 (0, 0))]) (fun k => V.length - k) 0 ⟨rfl, rfl, rfl, rfl, rfl, rfl, trivial⟩ (Nat.zero_le _) (fun w' hw' => hw') fun k hk => ?_
  by_cases hk2 : k < V.length
  · refine goA ?_
    refine l_w rfl (v_lookP (q := .i64) (h := k) (A := toG strV C) rfl rfl rfl rfl rfl (okI (by omega)) (fun w' hw' => (hC.keep hw').1)) ?_
    rw [toG_lookup]
    have hup : cpF C (k + 1) = (C.lookup k).elim (cpF C k) (insG (cpF C k) k) := rfl
    cases hb : C.lookup k with
    | some x =>
      rw [hb] at hup
      simp only [Option.map_some, Option.getD_some, Option.isSome_some]
      refine goA ?_
      refine l_op rfl (o_mapupN (h := k) (v := strV x) rfl rfl rfl rfl rfl rfl (okI (by omega))) fun _ => ?_
      rw [← toG_ins, show insG (cpF C k) k x = cpF C (k + 1) from hup.symm]
      refine goA ?_
      exact x_round (k + 1) ⟨rfl, rfl, rfl, rfl, rfl, rfl, trivial⟩ hk2 (fun w' hw' => hw') (by omega)
    | none =>
      rw [hb] at hup
      simp only [Option.map_none, Option.getD_none, Option.isSome_none]
      rw [show cpF C k = cpF C (k + 1) from hup.symm]
      refine goA ?_
      exact x_round (k + 1) ⟨rfl, rfl, rfl, rfl, rfl, rfl, trivial⟩ hk2 (fun w' hw' => hw') (by omega)
  · obtain rfl : k = V.length := by omega
    refine goA ?_
    refine l_op rfl (o_mapupN (h := i) (v := strV s) rfl rfl rfl rfl rfl rfl (okI (by omega))) fun _ => ?_
    rw [← toG_ins]
    refine goA ?_
    refine l_op rfl (ho_perm (bring1 _ _ _) (o_storea (cs' := #[.slice (some ⟨b, 0, none⟩) V.length c, .map (some mb)]) rfl rfl rfl rfl rfl rfl)) fun _ => ?_
    refine goA ?_
    exact x_ct mb rfl ⟨_, rfl, loada_run rfl (.head _)⟩ rfl trivial (.cons _ (.cons_cons _ (List.nil_sublist _))) (by intro it hm; rcases hm with _ | ⟨_, hm⟩; exact mapN_stable _ _ _ _; cases hm)
end Go.Proofs.YtplhamichcnmmaaGreatDoor

namespace Go.Eng
open Go.RowKit
theorem v_xor8 {P : Program} {l : Slots} {H : World → Prop} {x y : Operand} {xt yt ty : TypeId} {a b : Nat} (hx : evO l x = some (.int .u8 (a : Int))) (hy : evO l y = some (.int .u8 (b : Int))) (ha : a < 256) (hb : b < 256) : OV P (.binOp .xor xt x y yt) ty l H (.int .u8 ((a ^^^ b : Nat) : Int)) :=
  v_as (v_bin hx hy fun _ => rfl) (by
    show Value.int .u8 (IntKind.u8.wrap ((BitVec.ofInt 8 a ^^^ BitVec.ofInt 8 b).toNat)) = _
    have h1 : a % 2 ^ 8 = a := Nat.mod_eq_of_lt ha
    have h2 : b % 2 ^ 8 = b := Nat.mod_eq_of_lt hb
    rw [ofInt_nat, ofInt_nat, u8_wrap_nat, BitVec.toNat_xor, BitVec.toNat_ofNat, BitVec.toNat_ofNat, h1, h2, Nat.mod_eq_of_lt (show a ^^^ b < 256 from Nat.xor_lt_two_pow (n := 8) ha hb)])
end Go.Eng
namespace Go.Proofs.YtplhamichcnmmaaGreatDoor
open Go.RowKit Go.Eng Go.Eng.Bm
set_option maxRecDepth 100000
set_option maxHeartbeats 40000000
theorem bm_get {n : Nat} {S : Nat → Bool} {j : Nat} (hj : j < 512) : (bmB n S)[j]? = some (UInt8.ofNat (byte (trunc S n) j)) := by
  unfold bmB
  rw [List.getElem?_map, List.getElem?_range hj]; rfl
theorem bm_bit {n : Nat} {S : Nat → Bool} {i : Nat} (hi : i < n) : Value.bool (((byte (trunc S n) (i / 8) / 2 ^ (i % 8) % 2 : Nat) : Int) == 1) = .bool (S i) := by
  have h : (byte (trunc S n) (i / 8)).testBit (i % 8) = S i := by
    unfold byte
    rw [testBit_num, show 8 * (i / 8) + i % 8 = i by omega]
    unfold trunc
    have h1 : i % 8 < 8 := by omega
    simp [hi, h1]
  rw [Nat.testBit_eq_decide_div_mod_eq] at h
  rw [← h]
  congr 1
  rw [Bool.eq_iff_iff]
  simp only [beq_iff_eq, decide_eq_true_eq]
  generalize byte (trunc S n) (i / 8) / 2 ^ (i % 8) = q
  omega
theorem bm_set {n : Nat} {S : Nat → Bool} {i : Nat} (hi : i < n) (hn : n ≤ 1024) : (bmB n S).set (i / 8) (UInt8.ofNat (byte (trunc S n) (i / 8) ^^^ 2 ^ (i % 8))) = bmB n (upd S i (!S i)) := by
  apply List.ext_getElem?
  intro j
  by_cases hj : j < 512
  · rw [bm_get hj, List.getElem?_set]
    by_cases hji : i / 8 = j
    · rw [if_pos hji, if_pos (by rw [bmB_len]; omega)]
      congr 2
      refine Nat.eq_of_testBit_eq fun b => ?_
      unfold byte
      rw [Nat.testBit_xor, testBit_num, testBit_num, Nat.testBit_two_pow]
      unfold trunc upd
      by_cases hb : b < 8
      · by_cases hbi : i % 8 = b
        · have e : 8 * (i / 8) + b = i := by omega
          have e2 : 8 * j + b = i := by omega
          simp [hb, hbi, e, e2, hi]
        · have e2 : 8 * j + b ≠ i := by omega
          rw [hji]
          simp [hb, hbi, e2]
      · have hbi : i % 8 ≠ b := by omega
        simp [hb, hbi]
    · rw [if_neg hji, bm_get hj]
      congr 2
      unfold byte
      refine num_congr fun b hb => ?_
      unfold trunc upd
      rw [if_neg (by omega)]
  · rw [List.getElem?_eq_none (by rw [List.length_set, bmB_len]; omega), List.getElem?_eq_none (by rw [bmB_len]; omega)]
theorem rhas_calls (b c : Nat) (V : List Bys) (pm : Nat) (C : PR) (S : Nat → Bool) (hS : viewF V C 0 = bmB V.length S) (i : Nat) (hi : i < V.length) (hn : V.length ≤ 1000) (w : World) (hV : Rd w (some ⟨b, 0, none⟩) (strsV V)) (hC : Here (mC pm C) w) :
    Pu Tryz.prog 40 #[wV b c V pm, .int .i64 (i : Int)] w (.bool (S i)) := by
  refine pu_of [_, _] Tryz.func40 rfl rfl ?_
  simp only [argSlots, Nat.reduceAdd]
  refine goA ?_
  refine l_boxa rfl rfl fun b2 hb2 => ?_
  refine goA ?_
  refine l_opg rfl (o_pure rfl (by kernel_rfl) rfl (fun w1 hw1 => rpage_ok b c V pm C 0 (by omega) hn w1 (hV.keep hw1) (hC.keep hw1))) fun _ => ?_
  rw [hS]
  refine goA ?_
  have hj : i / 8 < 512 := by omega
  have hg := bm_get (n := V.length) (S := S) hj
  have hlt := byte_lt (trunc S V.length) (i / 8)
  have hbit := bm_bit (S := S) hi
  have hl := bmB_len V.length S
  generalize byte (trunc S V.length) (i / 8) = q at hg hlt hbit
  generalize bmB V.length S = T at hg hl ⊢
  have hsz : i / 8 < (⟨T.toArray⟩ : ByteArray).size := by show i / 8 < T.toArray.size; rw [List.size_toArray]; omega
  refine l_w rfl (v_sa (s := ⟨T.toArray⟩) (i := i / 8) rfl rfl rfl hsz) ?_
  have he : ((⟨T.toArray⟩ : ByteArray)[i / 8]'hsz).toNat = q := by
    have h1 : (⟨T.toArray⟩ : ByteArray)[i / 8]'hsz = T[i / 8]'(by omega) := rfl
    rw [List.getElem?_eq_getElem (by omega)] at hg
    rw [h1, Option.some.inj hg, UInt8.toNat_ofNat']
    exact Nat.mod_eq_of_lt hlt
  rw [he]
  refine goA ?_
  exact x_pu rfl rfl hbit
theorem set_calls (b c : Nat) (V : List Bys) (pm : Nat) (C : PR) (S : Nat → Bool) (hS : viewF V C 0 = bmB V.length S) (i : Nat) (hi : i < V.length) (hn : V.length ≤ 1000) (w : World) (hV : Rd w (some ⟨b, 0, none⟩) (strsV V)) (hC : Here (mC pm C) w) :
    Ct Tryz.prog 86 #[wV b c V pm, .int .i64 (i : Int)] w none' (fun pm' : Nat => wV b c V pm') (fun _ => True) (fun pm' => [mC pm' (withF V.length C 0 (bmB V.length (upd S i (!S i))))]) := by
  refine ct_of [_, _] Tryz.func86 rfl rfl ?_
  simp only [argSlots, Nat.reduceAdd]
  refine goA ?_
  refine l_boxa rfl rfl fun b2 hb2 => ?_
  refine goA ?_
  refine l_alloca rfl rfl fun b4 hb4 => ?_
  refine goA ?_
  refine l_opg rfl (o_pure rfl (by kernel_rfl) rfl (fun w1 hw1 => rpage_ok b c V pm C 0 (by omega) hn w1 (hV.keep hw1) (hC.keep hw1))) fun _ => ?_
  rw [hS]
  refine goA ?_
  have hj : i / 8 < 512 := by omega
  have hg := bm_get (n := V.length) (S := S) hj
  have hlt := byte_lt (trunc S V.length) (i / 8)
  have hset := bm_set (S := S) hi (by omega)
  have hl := bmB_len V.length S
  generalize byte (trunc S V.length) (i / 8) = q at hg hlt hset
  generalize bmB V.length S = T at hg hl hset ⊢
  unfold strV
  refine l_op rfl (o_strb rfl rfl rfl rfl) fun ⟨⟨p1, c1⟩, hp1, hp2⟩ => ?_
  dsimp only at hp1 hp2 ⊢
  have e1 : (⟨T.toArray⟩ : ByteArray).size = 512 := by show T.toArray.size = 512; rw [List.size_toArray]; exact hl
  have h2 : 2 ^ (i % 8) < 256 := Nat.pow_lt_pow_right (n := 8) (by decide) (by omega)
  have hat : (bytesV T ++ List.replicate (c1 - T.length) (Value.int .u8 0))[i / 8]? = some (.int .u8 (q : Int)) := by
    rw [List.getElem?_append_left (by rw [bytesV_length]; omega)]
    unfold bytesV
    rw [List.getElem?_map, hg]
    show some (Value.int .u8 ((UInt8.ofNat q).toNat : Int)) = _
    rw [UInt8.toNat_ofNat', Nat.mod_eq_of_lt hlt]
  rw [e1]
  refine goA ?_
  refine t_drawm [1, 2] 14 rfl rfl (by kernel_rfl) ?_
  (repeat first | (apply d_w [7, 11, 13] rfl rfl rfl (by kernel_rfl) (fun _ h => by first | exact h | exact Hp.sub h (.cons _ (.refl _)) | exact Hp.sub h (.cons _ (.cons _ (.refl _))) | exact Hp.sub h (.cons _ (.cons _ (.cons _ (.refl _)))) | exact Hp.sub h (.cons _ (.cons _ (.cons _ (.cons _ (.refl _))))) | exact Hp.sub h (.cons _ (.cons _ (.cons _ (.cons _ (.cons _ (.refl _)))))) | exact Hp.sub h (.cons _ (.cons _ (.cons _ (.cons _ (.cons _ (.cons _ (.refl _))))))) | exact Hp.sub h (.cons_cons _ (.cons_cons _ (List.nil_sublist _))) | exact Hp.sub h (.cons _ (.cons_cons _ (.cons_cons _ (List.nil_sublist _))))); focus (first | exact v_move rfl | exact v_assign rfl | exact v_bt rfl rfl | exact v_extract rfl rfl | exact v_field0 rfl rfl | exact v_field rfl rfl | exact v_lens rfl rfl | exact v_lenstr rfl rfl | exact v_nt rfl | exact v_load1p rfl rfl (by repeat first | exact .head _ | apply List.Mem.tail) | exact v_loadn rfl rfl (by repeat first | exact .head _ | apply List.Mem.tail) rfl | exact v_loadp rfl rfl (by repeat first | exact .head _ | apply List.Mem.tail) rfl | exact v_loada rfl rfl (by repeat first | exact .head _ | apply List.Mem.tail) | exact v_eqb rfl rfl rfl | exact v_slA rfl rfl rfl | exact v_builds rfl rfl rfl rfl rfl | exact v_eqs rfl rfl | exact v_nc rfl | exact v_caps rfl rfl | exact v_eqpn rfl rfl rfl | exact v_nepn rfl rfl rfl | exact v_neps rfl rfl rfl rfl | ((first | refine v_bn rfl rfl ?_ | refine v_is1 rfl rfl rfl ?_ | refine v_ia1 rfl rfl rfl ?_ | refine v_sa rfl rfl rfl ?_ | refine v_sF rfl rfl rfl ?_ | refine v_sT rfl rfl rfl ?_ | refine v_sFT rfl rfl rfl rfl ?_ | refine v_lF rfl rfl rfl rfl ?_ | refine v_is rfl rfl rfl ?_ | refine v_ia rfl rfl rfl ?_ | refine v_lT rfl rfl rfl rfl ?_ | refine v_cv rfl rfl rfl ?_ | refine v_slLH rfl rfl rfl rfl rfl ?_ | refine v_sl3 rfl rfl rfl rfl rfl ?_); first | omega | assumption) | exact v_pT rfl rfl (by first | omega | assumption | (simp; done) | exact fun h => h (by assumption) | fail) | exact v_pF rfl rfl (by first | omega | assumption | (simp; done) | exact fun h => h (by assumption) | fail) | exact v_pickB rfl rfl rfl)) | refine d_no [7, 11, 13] rfl rfl rfl (by kernel_rfl) (fun _ h => by first | exact h | exact Hp.sub h (.cons _ (.refl _)) | exact Hp.sub h (.cons _ (.cons _ (.refl _))) | exact Hp.sub h (.cons _ (.cons _ (.cons _ (.refl _)))) | exact Hp.sub h (.cons _ (.cons _ (.cons _ (.cons _ (.refl _))))) | exact Hp.sub h (.cons _ (.cons _ (.cons _ (.cons _ (.cons _ (.refl _)))))) | exact Hp.sub h (.cons _ (.cons _ (.cons _ (.cons _ (.cons _ (.cons _ (.refl _))))))) | exact Hp.sub h (.cons_cons _ (.cons_cons _ (List.nil_sublist _))) | exact Hp.sub h (.cons _ (.cons_cons _ (.cons_cons _ (List.nil_sublist _))))) ?_ | refine d_T [7, 11, 13] rfl rfl rfl rfl (by first | omega | assumption | (simp; done) | exact fun h => h (by assumption) | fail) ?_ | refine d_F [7, 11, 13] rfl rfl rfl rfl (by first | omega | assumption | (simp; done) | exact fun h => h (by assumption) | fail) ?_)
  refine d_opg 7 ⟨by kernel_rfl, by decide⟩ rfl rfl (o_val rfl (v_load (v := .int .u8 (q : Int)) rfl rfl (fun w' hw' => by
    have := rangeAt_pt (hw'.get (b := p1) (.head _)) (i / 8) _ hat
    simpa using this))) (fun _ _ h => goH h) fun _ => ?_
  refine d_v [13] rfl rfl (by kernel_rfl) (fun _ h => by first | exact h | exact Hp.sub h (.cons _ (.refl _)) | exact Hp.sub h (.cons _ (.cons _ (.refl _))) | exact Hp.sub h (.cons _ (.cons _ (.cons _ (.refl _)))) | exact Hp.sub h (.cons _ (.cons _ (.cons _ (.cons _ (.refl _))))) | exact Hp.sub h (.cons _ (.cons _ (.cons _ (.cons _ (.cons _ (.refl _)))))) | exact Hp.sub h (.cons _ (.cons _ (.cons _ (.cons _ (.cons _ (.cons _ (.refl _))))))) | exact Hp.sub h (.cons_cons _ (.cons_cons _ (List.nil_sublist _))) | exact Hp.sub h (.cons _ (.cons_cons _ (.cons_cons _ (List.nil_sublist _))))) rfl rfl (v_as (v_xor8 (a := q) (b := 1 * 2 ^ (i % 8) % 256) rfl rfl hlt (Nat.mod_lt _ (by decide))) (show _ = Value.int .u8 ((q ^^^ 2 ^ (i % 8) : Nat) : Int) by rw [Nat.one_mul, Nat.mod_eq_of_lt h2])) ?_
  (repeat first | (apply d_w [13] rfl rfl rfl (by kernel_rfl) (fun _ h => by first | exact h | exact Hp.sub h (.cons _ (.refl _)) | exact Hp.sub h (.cons _ (.cons _ (.refl _))) | exact Hp.sub h (.cons _ (.cons _ (.cons _ (.refl _)))) | exact Hp.sub h (.cons _ (.cons _ (.cons _ (.cons _ (.refl _))))) | exact Hp.sub h (.cons _ (.cons _ (.cons _ (.cons _ (.cons _ (.refl _)))))) | exact Hp.sub h (.cons _ (.cons _ (.cons _ (.cons _ (.cons _ (.cons _ (.refl _))))))) | exact Hp.sub h (.cons_cons _ (.cons_cons _ (List.nil_sublist _))) | exact Hp.sub h (.cons _ (.cons_cons _ (.cons_cons _ (List.nil_sublist _))))); focus (first | exact v_move rfl | exact v_assign rfl | exact v_bt rfl rfl | exact v_extract rfl rfl | exact v_field0 rfl rfl | exact v_field rfl rfl | exact v_lens rfl rfl | exact v_lenstr rfl rfl | exact v_nt rfl | exact v_load1p rfl rfl (by repeat first | exact .head _ | apply List.Mem.tail) | exact v_loadn rfl rfl (by repeat first | exact .head _ | apply List.Mem.tail) rfl | exact v_loadp rfl rfl (by repeat first | exact .head _ | apply List.Mem.tail) rfl | exact v_loada rfl rfl (by repeat first | exact .head _ | apply List.Mem.tail) | exact v_eqb rfl rfl rfl | exact v_slA rfl rfl rfl | exact v_builds rfl rfl rfl rfl rfl | exact v_eqs rfl rfl | exact v_nc rfl | exact v_caps rfl rfl | exact v_eqpn rfl rfl rfl | exact v_nepn rfl rfl rfl | exact v_neps rfl rfl rfl rfl | ((first | refine v_bn rfl rfl ?_ | refine v_is1 rfl rfl rfl ?_ | refine v_ia1 rfl rfl rfl ?_ | refine v_sa rfl rfl rfl ?_ | refine v_sF rfl rfl rfl ?_ | refine v_sT rfl rfl rfl ?_ | refine v_sFT rfl rfl rfl rfl ?_ | refine v_lF rfl rfl rfl rfl ?_ | refine v_is rfl rfl rfl ?_ | refine v_ia rfl rfl rfl ?_ | refine v_lT rfl rfl rfl rfl ?_ | refine v_cv rfl rfl rfl ?_ | refine v_slLH rfl rfl rfl rfl rfl ?_ | refine v_sl3 rfl rfl rfl rfl rfl ?_); first | omega | assumption) | exact v_pT rfl rfl (by first | omega | assumption | (simp; done) | exact fun h => h (by assumption) | fail) | exact v_pF rfl rfl (by first | omega | assumption | (simp; done) | exact fun h => h (by assumption) | fail) | exact v_pickB rfl rfl rfl)) | refine d_no [13] rfl rfl rfl (by kernel_rfl) (fun _ h => by first | exact h | exact Hp.sub h (.cons _ (.refl _)) | exact Hp.sub h (.cons _ (.cons _ (.refl _))) | exact Hp.sub h (.cons _ (.cons _ (.cons _ (.refl _)))) | exact Hp.sub h (.cons _ (.cons _ (.cons _ (.cons _ (.refl _))))) | exact Hp.sub h (.cons _ (.cons _ (.cons _ (.cons _ (.cons _ (.refl _)))))) | exact Hp.sub h (.cons _ (.cons _ (.cons _ (.cons _ (.cons _ (.cons _ (.refl _))))))) | exact Hp.sub h (.cons_cons _ (.cons_cons _ (List.nil_sublist _))) | exact Hp.sub h (.cons _ (.cons_cons _ (.cons_cons _ (List.nil_sublist _))))) ?_ | refine d_T [13] rfl rfl rfl rfl (by first | omega | assumption | (simp; done) | exact fun h => h (by assumption) | fail) ?_ | refine d_F [13] rfl rfl rfl rfl (by first | omega | assumption | (simp; done) | exact fun h => h (by assumption) | fail) ?_)
  refine d_opg 13 ⟨by kernel_rfl, by decide⟩ rfl rfl (o_storem rfl rfl rfl rfl rfl rfl (show 0 + i / 8 < (bytesV T ++ List.replicate (c1 - T.length) (Value.int .u8 0)).toArray.size from by rw [List.size_toArray, List.length_append, bytesV_length]; omega) (fun h => absurd h.1 (show ¬ c1 ≤ 0 + i / 8 by omega))) (fun _ _ h => goH h) fun _ => ?_
  have e3 : (bytesV T ++ List.replicate (c1 - T.length) (Value.int .u8 0)).toArray.setIfInBounds (0 + i / 8) (.int .u8 ((q ^^^ 2 ^ (i % 8) : Nat) : Int)) = (bytesV (bmB V.length (upd S i (!S i))) ++ List.replicate (c1 - T.length) (Value.int .u8 0)).toArray := by
    have hx : q ^^^ 2 ^ (i % 8) < 256 := Nat.xor_lt_two_pow (n := 8) hlt h2
    rw [Nat.zero_add, ← hset, List.setIfInBounds_toArray, List.set_append_left _ _ (by rw [bytesV_length]; omega)]
    congr 2
    unfold bytesV
    rw [List.map_set, UInt8.toNat_ofNat', Nat.mod_eq_of_lt hx]
  rw [e3]
  have hl' : (bmB V.length (upd S i (!S i))).length = 512 := bmB_len _ _
  generalize bmB V.length (upd S i (!S i)) = T' at hl' ⊢
  refine d_end (by kernel_rfl) ?_
  refine goA ?_
  refine l_w rfl (v_bstr (bs := T') rfl hl'.symm rfl rfl (fun w' hw' => .inr ⟨p1, 0, rfl, by
    have := rangeAt_pt (hw'.get (b := p1) (.head _))
    have := rangeAt_take (k := (bytesV T').length) this
    rwa [List.take_left] at this⟩)) ?_
  refine goA ?_
  refine l_ctg rfl rfl (by kernel_rfl) rfl (fun w1 hw1 => with_calls b c V pm C 0 (by decide) T' hn w1 (hC.keep hw1)) fun x hx => ?_
  simp only [List.cons_append, List.nil_append]
  refine goA ?_
  refine l_op rfl (ho_perm (bring2 _ _ _ _) (o_storea (cs' := #[.slice (some ⟨b, 0, none⟩) V.length c, .map (some x)]) rfl rfl rfl rfl rfl rfl)) fun _ => ?_
  refine goA ?_
  exact x_ct x rfl ⟨_, rfl, loada_run rfl (.head _)⟩ rfl trivial (.cons _ (.cons_cons _ (List.nil_sublist _))) (by intro it hm; rcases hm with _ | ⟨_, hm⟩; exact mapN_stable _ _ _ _; cases hm)
end Go.Proofs.YtplhamichcnmmaaGreatDoor
