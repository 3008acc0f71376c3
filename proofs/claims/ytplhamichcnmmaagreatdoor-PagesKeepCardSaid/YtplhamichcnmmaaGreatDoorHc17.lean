/- package wal: Format. -/
/- package wal: the sheets that lie in their places, as sheets; a log in memory. -/
/- package wal: what a log says of itself. -/
import Derived.Test.YtplhamichcnmmaaGreatDoorHc16
namespace Go.Proofs.YtplhamichcnmmaaGreatDoor
open Go.RowKit Go.Eng
set_option maxRecDepth 100000
set_option maxHeartbeats 40000000
theorem lookN_2 (D : Dsk) : (lookN D 2).2 = -1 ∨ (lookN D 2).2 = 0 ∨ (lookN D 2).2 = 1 := by
  have h1 : (lookN D 1).2 = -1 ∨ (lookN D 1).2 = 0 := by
    have e : lookN D 1 = lookF (curF D 0) 0 (noHd, -1) := rfl
    rw [e]
    unfold lookF
    split
    · exact .inr rfl
    · exact .inl rfl
  show (lookF _ 1 (lookN D 1)).2 = _ ∨ (lookF _ 1 (lookN D 1)).2 = _ ∨ (lookF _ 1 (lookN D 1)).2 = _
  unfold lookF
  split
  · exact .inr (.inr rfl)
  · rcases h1 with h | h
    · exact .inl h
    · exact .inr (.inl h)
theorem nextF_lt {L : NRows} {v : Nat} (hv : v < 18446744073709551616) : nextF L v < 18446744073709551616 := by
  have := (nextF_le L v 18446744073709551615).2 ⟨by omega, fun p _ => by have : nxt p.1 < 18446744073709551616 := Nat.mod_lt _ (by decide); omega⟩
  omega
theorem insN_keys {A : NRows} {h : Nat} {v : Value} (hA : ∀ p ∈ A, p.1 < 18446744073709551616) (hh : h < 18446744073709551616) : ∀ p ∈ insN A h v, p.1 < 18446744073709551616 := by
  intro p hp
  unfold insN at hp
  split at hp
  · obtain ⟨q, hq, rfl⟩ := List.mem_map.1 hp
    split
    · exact hh
    · exact hA q hq
  · rcases List.mem_append.1 hp with hp | hp
    · exact hA p hp
    · rw [List.mem_singleton] at hp; subst hp; exact hh
theorem readN_keys (D : Dsk) (n i : Nat) : ∀ p ∈ readN D n i, p.1 < 18446744073709551616 := by
  induction i with
  | zero => exact fun _ h => nomatch h
  | succ i ih =>
    show ∀ p ∈ readS _ n i _, _
    unfold readS
    split
    · exact insN_keys ih (shtT_seq _)
    · exact ih
def newHd (D : Dsk) (n : Nat) (note : Bys) : Hd := ⟨((lookN D 2).1.gen + 1) % 18446744073709551616, nextF (readN D n n) 1, n, note⟩
theorem dc_stable (d : Dk) : ∀ it ∈ [dkI d, ctI], it.Stable none' := by
  intro it hm
  rcases hm with _ | ⟨_, _ | ⟨_, hm⟩⟩
  · exact bundle_stable _
  · exact ctI_stable _
  · exact nomatch hm
theorem format_calls (d : Dk) (ok : d.D.Ok) (hlive : d.D.dead = false) (hkl : d.D.keep.length ≤ 1000000) (hwl : d.D.wait.length ≤ 1000000) (n : Nat) (hn0 : 96 ≤ n) (hn1 : n ≤ 512) (hn : 2 + n ≤ d.D.on.length) (note : Bys) (hno : note.length ≤ 64) (w : World) (hw : ∀ it ∈ [dkI d, ctI], Here it w) (ha : [dkI d, ctI].Pairwise Eng.Item.Apart) :
    Ct Tryz.prog 64 #[.pointer (some ⟨d.b, 0, none⟩), .int .i64 n, .string ⟨note.toArray⟩] w (foots [dkI d, ctI]) (fun _ : Dk => .int .i64 ((writeHF d.D (otherF (lookN d.D 2).2) (newHd d.D n note)).1 : Nat)) (dkOf d (writeHF d.D (otherF (lookN d.D 2).2) (newHd d.D n note)).2) (fun d' => [dkI d', ctI]) := by
  refine cu_of [_, _, _] _ Tryz.func64 rfl rfl hw ha ?_
  have hmany := ok.many
  have hnl := bal note
  simp only [argSlots, Nat.reduceAdd]
  refine goA ?_
  refine l_opg rfl (o_pure rfl (by kernel_rfl) rfl (fun w1 hw1 => dlen_calls d w1 (Here.of (hw1.item _ (.head _)) (bundle_stable _)))) fun _ => ?_
  refine goA ?_
  rw [hnl]
  refine goA ?_
  refine l_opg rfl (o_cu (pre := [dkI d, ctI]) rfl (by kernel_rfl) rfl (dc_stable d) (fun w1 hw1 hh1 ha1 => counts_calls d ok hlive (by omega) (by omega) w1 hh1 ha1)) fun ⟨_, _⟩ => ?_
  have hl2 := lookN_2 d.D
  have hq : newHd d.D n note = ⟨((lookN d.D 2).1.gen + 1) % 18446744073709551616, nextF (readN d.D n n) 1, n, note⟩ := rfl
  rw [hq]
  generalize lookN d.D 2 = q at hl2 ⊢
  refine goA ?_
  refine l_alloca rfl rfl fun b7 hb7 => ?_
  refine l_op rfl (o_storea (cs' := hdA q.1) rfl rfl rfl rfl rfl rfl) fun _ => ?_
  refine goA ?_
  refine l_ctg rfl rfl (by kernel_rfl) rfl (fun w1 hw1 => wread_calls d ok hlive (by omega) n (by omega) (by omega) w1 (Here.of (hw1.item (dkI d) (.tail _ (.head _))) (bundle_stable _)) (hw1.item ctI (.tail _ (.tail _ (.head _)))).1) fun x hx => ?_
  refine goA ?_
  refine t_pick [2, 3, 0, 1] rfl rfl ?_
  have hrk := readN_keys d.D n n
  generalize readN d.D n n = A at hrk ⊢
  refine t_drawm [3] 13 rfl rfl (by kernel_rfl) ?_
  (repeat first | (apply d_w [2, 5] rfl rfl rfl (by kernel_rfl) (fun _ h => by first | exact h | exact Hp.sub h (.cons _ (.refl _)) | exact Hp.sub h (.cons _ (.cons _ (.refl _))) | exact Hp.sub h (.cons _ (.cons _ (.cons _ (.refl _)))) | exact Hp.sub h (.cons _ (.cons _ (.cons _ (.cons _ (.refl _))))) | exact Hp.sub h (.cons _ (.cons _ (.cons _ (.cons _ (.cons _ (.refl _)))))) | exact Hp.sub h (.cons _ (.cons _ (.cons _ (.cons _ (.cons _ (.cons _ (.refl _))))))) | exact Hp.sub h (.cons_cons _ (.cons_cons _ (List.nil_sublist _))) | exact Hp.sub h (.cons _ (.cons_cons _ (.cons_cons _ (List.nil_sublist _))))); focus (first | exact v_move rfl | exact v_assign rfl | exact v_bt rfl rfl | exact v_extract rfl rfl | exact v_field0 rfl rfl | exact v_field rfl rfl | exact v_lens rfl rfl | exact v_lenstr rfl rfl | exact v_nt rfl | exact v_load1p rfl rfl (by repeat first | exact .head _ | apply List.Mem.tail) | exact v_loadn rfl rfl (by repeat first | exact .head _ | apply List.Mem.tail) rfl | exact v_loadp rfl rfl (by repeat first | exact .head _ | apply List.Mem.tail) rfl | exact v_loada rfl rfl (by repeat first | exact .head _ | apply List.Mem.tail) | exact v_eqb rfl rfl rfl | exact v_slA rfl rfl rfl | exact v_builds rfl rfl rfl rfl rfl | exact v_eqs rfl rfl | exact v_nc rfl | exact v_caps rfl rfl | exact v_eqpn rfl rfl rfl | exact v_nepn rfl rfl rfl | exact v_neps rfl rfl rfl rfl | ((first | refine v_bn rfl rfl ?_ | refine v_is1 rfl rfl rfl ?_ | refine v_ia1 rfl rfl rfl ?_ | refine v_sa rfl rfl rfl ?_ | refine v_sF rfl rfl rfl ?_ | refine v_sT rfl rfl rfl ?_ | refine v_sFT rfl rfl rfl rfl ?_ | refine v_lF rfl rfl rfl rfl ?_ | refine v_is rfl rfl rfl ?_ | refine v_ia rfl rfl rfl ?_ | refine v_lT rfl rfl rfl rfl ?_ | refine v_cv rfl rfl rfl ?_ | refine v_slLH rfl rfl rfl rfl rfl ?_ | refine v_sl3 rfl rfl rfl rfl rfl ?_); first | omega | assumption) | exact v_pT rfl rfl (by first | omega | assumption | (simp; done) | exact fun h => h (by assumption) | fail) | exact v_pF rfl rfl (by first | omega | assumption | (simp; done) | exact fun h => h (by assumption) | fail) | exact v_pickB rfl rfl rfl)) | refine d_no [2, 5] rfl rfl rfl (by kernel_rfl) (fun _ h => by first | exact h | exact Hp.sub h (.cons _ (.refl _)) | exact Hp.sub h (.cons _ (.cons _ (.refl _))) | exact Hp.sub h (.cons _ (.cons _ (.cons _ (.refl _)))) | exact Hp.sub h (.cons _ (.cons _ (.cons _ (.cons _ (.refl _))))) | exact Hp.sub h (.cons _ (.cons _ (.cons _ (.cons _ (.cons _ (.refl _)))))) | exact Hp.sub h (.cons _ (.cons _ (.cons _ (.cons _ (.cons _ (.cons _ (.refl _))))))) | exact Hp.sub h (.cons_cons _ (.cons_cons _ (List.nil_sublist _))) | exact Hp.sub h (.cons _ (.cons_cons _ (.cons_cons _ (List.nil_sublist _))))) ?_ | refine d_T [2, 5] rfl rfl rfl rfl (by first | omega | assumption | (simp; done) | exact fun h => h (by assumption) | fail) ?_ | refine d_F [2, 5] rfl rfl rfl rfl (by first | omega | assumption | (simp; done) | exact fun h => h (by assumption) | fail) ?_)
  refine d_v [2] rfl rfl (by kernel_rfl) (fun _ h => by first | exact h | exact Hp.sub h (.cons _ (.refl _)) | exact Hp.sub h (.cons _ (.cons _ (.refl _))) | exact Hp.sub h (.cons _ (.cons _ (.cons _ (.refl _)))) | exact Hp.sub h (.cons _ (.cons _ (.cons _ (.cons _ (.refl _))))) | exact Hp.sub h (.cons _ (.cons _ (.cons _ (.cons _ (.cons _ (.refl _)))))) | exact Hp.sub h (.cons _ (.cons _ (.cons _ (.cons _ (.cons _ (.cons _ (.refl _))))))) | exact Hp.sub h (.cons_cons _ (.cons_cons _ (List.nil_sublist _))) | exact Hp.sub h (.cons _ (.cons_cons _ (.cons_cons _ (List.nil_sublist _))))) rfl rfl (v_addUw (a := q.1.gen) (b := 1) rfl rfl) ?_
  (repeat first | (apply d_w [2] rfl rfl rfl (by kernel_rfl) (fun _ h => by first | exact h | exact Hp.sub h (.cons _ (.refl _)) | exact Hp.sub h (.cons _ (.cons _ (.refl _))) | exact Hp.sub h (.cons _ (.cons _ (.cons _ (.refl _)))) | exact Hp.sub h (.cons _ (.cons _ (.cons _ (.cons _ (.refl _))))) | exact Hp.sub h (.cons _ (.cons _ (.cons _ (.cons _ (.cons _ (.refl _)))))) | exact Hp.sub h (.cons _ (.cons _ (.cons _ (.cons _ (.cons _ (.cons _ (.refl _))))))) | exact Hp.sub h (.cons_cons _ (.cons_cons _ (List.nil_sublist _))) | exact Hp.sub h (.cons _ (.cons_cons _ (.cons_cons _ (List.nil_sublist _))))); focus (first | exact v_move rfl | exact v_assign rfl | exact v_bt rfl rfl | exact v_extract rfl rfl | exact v_field0 rfl rfl | exact v_field rfl rfl | exact v_lens rfl rfl | exact v_lenstr rfl rfl | exact v_nt rfl | exact v_load1p rfl rfl (by repeat first | exact .head _ | apply List.Mem.tail) | exact v_loadn rfl rfl (by repeat first | exact .head _ | apply List.Mem.tail) rfl | exact v_loadp rfl rfl (by repeat first | exact .head _ | apply List.Mem.tail) rfl | exact v_loada rfl rfl (by repeat first | exact .head _ | apply List.Mem.tail) | exact v_eqb rfl rfl rfl | exact v_slA rfl rfl rfl | exact v_builds rfl rfl rfl rfl rfl | exact v_eqs rfl rfl | exact v_nc rfl | exact v_caps rfl rfl | exact v_eqpn rfl rfl rfl | exact v_nepn rfl rfl rfl | exact v_neps rfl rfl rfl rfl | ((first | refine v_bn rfl rfl ?_ | refine v_is1 rfl rfl rfl ?_ | refine v_ia1 rfl rfl rfl ?_ | refine v_sa rfl rfl rfl ?_ | refine v_sF rfl rfl rfl ?_ | refine v_sT rfl rfl rfl ?_ | refine v_sFT rfl rfl rfl rfl ?_ | refine v_lF rfl rfl rfl rfl ?_ | refine v_is rfl rfl rfl ?_ | refine v_ia rfl rfl rfl ?_ | refine v_lT rfl rfl rfl rfl ?_ | refine v_cv rfl rfl rfl ?_ | refine v_slLH rfl rfl rfl rfl rfl ?_ | refine v_sl3 rfl rfl rfl rfl rfl ?_); first | omega | assumption) | exact v_pT rfl rfl (by first | omega | assumption | (simp; done) | exact fun h => h (by assumption) | fail) | exact v_pF rfl rfl (by first | omega | assumption | (simp; done) | exact fun h => h (by assumption) | fail) | exact v_pickB rfl rfl rfl)) | refine d_no [2] rfl rfl rfl (by kernel_rfl) (fun _ h => by first | exact h | exact Hp.sub h (.cons _ (.refl _)) | exact Hp.sub h (.cons _ (.cons _ (.refl _))) | exact Hp.sub h (.cons _ (.cons _ (.cons _ (.refl _)))) | exact Hp.sub h (.cons _ (.cons _ (.cons _ (.cons _ (.refl _))))) | exact Hp.sub h (.cons _ (.cons _ (.cons _ (.cons _ (.cons _ (.refl _)))))) | exact Hp.sub h (.cons _ (.cons _ (.cons _ (.cons _ (.cons _ (.cons _ (.refl _))))))) | exact Hp.sub h (.cons_cons _ (.cons_cons _ (List.nil_sublist _))) | exact Hp.sub h (.cons _ (.cons_cons _ (.cons_cons _ (List.nil_sublist _))))) ?_ | refine d_T [2] rfl rfl rfl rfl (by first | omega | assumption | (simp; done) | exact fun h => h (by assumption) | fail) ?_ | refine d_F [2] rfl rfl rfl rfl (by first | omega | assumption | (simp; done) | exact fun h => h (by assumption) | fail) ?_)
  refine d_opg 2 ⟨by kernel_rfl, by decide⟩ rfl rfl (o_pure rfl (by kernel_rfl) rfl (fun w1 hw1 => other_calls q.2 hl2 w1)) (fun _ _ h => goH h) fun _ => ?_
  refine goE ?_
  refine d_opg 7 ⟨by kernel_rfl, by decide⟩ rfl rfl (ho_perm (bring2 _ _ _ _) (o_cu (pre := [mapN .u64 x A]) rfl (by kernel_rfl) rfl (by intro it hm; rcases hm with _ | ⟨_, hm⟩ <;> first | exact mapN_stable _ _ _ _ | exact (nomatch hm)) (fun w1 hw1 hh1 ha1 => next_calls x A hrk 1 (by decide) w1 hh1))) (fun _ _ h => goH h) fun ⟨_, _⟩ => ?_
  have hnn := nextF_lt (L := A) (v := 1) (by decide)
  generalize nextF A 1 = f at hnn ⊢
  refine goE ?_
  have hg : (q.1.gen + 1) % 18446744073709551616 < 18446744073709551616 := Nat.mod_lt _ (by decide)
  generalize (q.1.gen + 1) % 18446744073709551616 = g at hg ⊢
  refine d_say 61 _ (.agg (hdA ⟨g, f, n, note⟩)) rfl rfl ?_
  have hof : otherF q.2 < 9223372036854775808 := by unfold otherF; split <;> decide
  generalize otherF q.2 = at_ at hof ⊢
  refine d_opg 11 ⟨by kernel_rfl, by decide⟩ rfl rfl (ho_perm (List.perm_middle (a := mapN .u64 x A) (l₁ := [dkI d, ctI]) (l₂ := [pt b7 (.cells (hdA q.1) 126 (0, 0))])).symm (o_cu (pre := [dkI d, ctI]) rfl (by kernel_rfl) rfl (dc_stable d) (fun w1 hw1 hh1 ha1 => write_calls d ok hkl hwl at_ hof ⟨g, f, n, note⟩ ⟨hg, hnn, by show n < 65536; omega, hno⟩ w1 hh1 ha1))) (fun _ _ h => goH h) fun ⟨d', hd'⟩ => ?_
  refine goE ?_
  refine d_end (by kernel_rfl) ?_
  refine goA ?_
  exact x_ct d' rfl rfl rfl hd' (.cons_cons _ (.cons_cons _ (List.nil_sublist _))) (dc_stable d')
end Go.Proofs.YtplhamichcnmmaaGreatDoor

namespace Go.Proofs.YtplhamichcnmmaaGreatDoor
open Go.RowKit Go.Eng
set_option maxRecDepth 100000
def insS (B : SRows) (h : Nat) (s : Sht) : SRows := if (B.lookup h).isSome then B.map (fun p => if p.1 = h then (h, s) else p) else B ++ [(h, s)]
theorem toN_ins (B : SRows) (h : Nat) (s : Sht) : toN (insS B h s) = insN (toN B) h (.agg (shtA s)) := by
  unfold insS insN
  rw [toN_lookup, Option.isSome_map]
  split
  · unfold toN
    rw [List.map_map, List.map_map]
    refine List.map_congr_left fun p _ => ?_
    show (_, _) = _
    by_cases hp : p.1 = h
    · simp [hp]
    · simp [hp]
  · unfold toN
    rw [List.map_append]; rfl
def readSN (D : Dsk) (n : Nat) : Nat → SRows
  | 0 => []
  | i + 1 => if shtOk (curF D (2 + i)) && decide (placeF (shtT (curF D (2 + i))).seq n = 2 + i) then insS (readSN D n i) (shtT (curF D (2 + i))).seq (shtT (curF D (2 + i))) else readSN D n i
theorem toN_read (D : Dsk) (n i : Nat) : toN (readSN D n i) = readN D n i := by
  induction i with
  | zero => rfl
  | succ i ih =>
    rw [readSN, readN, readS]
    split
    · rw [toN_ins, ih]
    · exact ih
theorem insS_len (B : SRows) (h : Nat) (s : Sht) : (insS B h s).length ≤ B.length + 1 := by
  unfold insS
  split
  · rw [List.length_map]; omega
  · rw [List.length_append]; exact Nat.le_refl _
theorem readSN_len (D : Dsk) (n i : Nat) : (readSN D n i).length ≤ i := by
  induction i with
  | zero => exact Nat.le_refl _
  | succ i ih =>
    rw [readSN]
    split
    · have := insS_len (readSN D n i) (shtT (curF D (2 + i))).seq (shtT (curF D (2 + i)))
      omega
    · omega
theorem insS_all {Φ : Sht → Prop} {B : SRows} {h : Nat} {s : Sht} (hB : ∀ p ∈ B, Φ p.2) (hs : Φ s) : ∀ p ∈ insS B h s, Φ p.2 := by
  intro p hp
  unfold insS at hp
  split at hp
  · obtain ⟨q, hq, rfl⟩ := List.mem_map.1 hp
    split
    · exact hs
    · exact hB q hq
  · rcases List.mem_append.1 hp with hp | hp
    · exact hB p hp
    · rw [List.mem_singleton] at hp; subst hp; exact hs
structure Lg where
  h : Hd
  at_ : Nat
  next : Nat
  used : Nat
  dead : Bool
abbrev lgA (d : Dk) (g : Lg) : Array Value := #[.pointer (some ⟨d.b, 0, none⟩), .int .u64 (g.h.gen : Int), .int .u64 (g.h.first : Int), .int .i64 (g.h.secs : Int), .string ⟨g.h.note.toArray⟩, .int .i64 (g.at_ : Int), .int .u64 (g.next : Int), .int .i64 (g.used : Int), .bool g.dead]
abbrev lgI (b : Nat) (d : Dk) (g : Lg) : Eng.Item := pt b (.cells (lgA d g) 134 (0, 0))
end Go.Proofs.YtplhamichcnmmaaGreatDoor

namespace Go.Proofs.YtplhamichcnmmaaGreatDoor
open Go.RowKit Go.Eng
set_option maxRecDepth 100000
set_option maxHeartbeats 40000000
theorem lg_at {b : Nat} {d : Dk} {g : Lg} {w : World} (h : Here (lgI b d g) w) (i : Nat) {v : Value} (hv : (lgA d g)[i]? = some v) : w.cell? ⟨b, i, none⟩ = some v := by
  rw [cell_of_row w b i _ _ _ h.1]; exact hv
theorem lgsectors_calls (b : Nat) (d : Dk) (g : Lg) (w : World) (h : Here (lgI b d g) w) : Pu Tryz.prog 65 #[.pointer (some ⟨b, 0, none⟩)] w (.int .i64 g.h.secs) := by
  refine pu_of [_] Tryz.func65 rfl rfl ?_
  simp only [argSlots]
  refine goA ?_
  refine l_w rfl (v_load rfl rfl (fun w' hw' => lg_at (h.keep hw') 3 rfl)) ?_
  refine goA ?_
  exact x_pu rfl rfl rfl
theorem lgtaken_calls (b : Nat) (d : Dk) (g : Lg) (w : World) (h : Here (lgI b d g) w) : Pu Tryz.prog 114 #[.pointer (some ⟨b, 0, none⟩)] w (.int .i64 g.used) := by
  refine pu_of [_] Tryz.func114 rfl rfl ?_
  simp only [argSlots]
  refine goA ?_
  refine l_w rfl (v_load rfl rfl (fun w' hw' => lg_at (h.keep hw') 7 rfl)) ?_
  refine goA ?_
  exact x_pu rfl rfl rfl
theorem lgnote_calls (b : Nat) (d : Dk) (g : Lg) (w : World) (h : Here (lgI b d g) w) : Pu Tryz.prog 43 #[.pointer (some ⟨b, 0, none⟩)] w (.string ⟨g.h.note.toArray⟩) := by
  refine pu_of [_] Tryz.func43 rfl rfl ?_
  simp only [argSlots]
  refine goA ?_
  refine l_w rfl (v_load rfl rfl (fun w' hw' => lg_at (h.keep hw') 4 rfl)) ?_
  refine goA ?_
  exact x_pu rfl rfl rfl
theorem lgleft_calls (b : Nat) (d : Dk) (g : Lg) (hs : g.h.secs < 65536) (hu : g.used ≤ g.h.secs) (w : World) (h : Here (lgI b d g) w) : Pu Tryz.prog 75 #[.pointer (some ⟨b, 0, none⟩)] w (.int .i64 (g.h.secs - g.used : Nat)) := by
  refine pu_of [_] Tryz.func75 rfl rfl ?_
  simp only [argSlots]
  refine goA ?_
  refine l_opg rfl (o_pure rfl (by kernel_rfl) rfl (fun w1 hw1 => lgsectors_calls b d g w1 (h.keep hw1))) fun _ => ?_
  refine goA ?_
  refine l_opg rfl (o_pure rfl (by kernel_rfl) rfl (fun w1 hw1 => lgtaken_calls b d g w1 (h.keep hw1))) fun _ => ?_
  refine goA ?_
  exact x_pu rfl rfl rfl
end Go.Proofs.YtplhamichcnmmaaGreatDoor
