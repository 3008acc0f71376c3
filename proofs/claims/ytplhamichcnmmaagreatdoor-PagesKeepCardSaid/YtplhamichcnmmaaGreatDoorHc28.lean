/- package pages: sets, used, Alloc, Free, Used. -/
/- package pages: written. -/
import Derived.Test.YtplhamichcnmmaaGreatDoorHc27
import Derived.Test.YtplhamichcnmmaaGreatDoorHc26
namespace Go.Proofs.YtplhamichcnmmaaGreatDoor
open Go.RowKit Go.Eng Go.Eng.Bm
set_option maxRecDepth 100000
set_option maxHeartbeats 40000000
def bmB (n : Nat) (S : Nat → Bool) : Bys := (List.range 512).map fun j => UInt8.ofNat (byte (trunc S n) j)
theorem bmB_len (n : Nat) (S : Nat → Bool) : (bmB n S).length = 512 := by simp [bmB]
theorem bmB_cells (n : Nat) (S : Nat → Bool) : bcells S n = (bytesV (bmB n S)).toArray := by
  unfold bcells bytesV bmB
  rw [List.map_map]
  congr 1
  refine List.map_congr_left fun j _ => ?_
  show Value.int .u8 _ = Value.int .u8 _
  rw [UInt8.toNat_ofNat', Nat.mod_eq_of_lt (byte_lt _ _)]
theorem bmB_at {n : Nat} {S : Nat → Bool} {j : Nat} (hj : j < 512) : (bytesV (bmB n S))[j]? = some (.int .u8 (byte (trunc S n) j : Nat)) := by
  have := bcells_at S n hj
  rw [bmB_cells, List.getElem?_toArray] at this
  exact this
def Canon (n : Nat) (S : Nat → Bool) : Prop := ∀ j, n ≤ j → S j = false
theorem bits_canon {n : Nat} {S : Nat → Bool} (hn : n ≤ 1024) (hc : Canon n S) : trunc (bitsOf fun j => byte (trunc S n) j) 4096 = S := funext fun i => by
  unfold trunc bitsOf
  by_cases hi : i < 4096
  · have := testBit_byte (trunc S n) (i / 8) (i % 8) (Nat.mod_lt _ (by decide))
    simp only [hi, decide_true, Bool.true_and]
    unfold trunc at this
    rw [this, show 8 * (i / 8) + i % 8 = i by omega]
    by_cases h : i < n
    · simp [h]
    · simp [h, hc i (by omega)]
  · simp [hi, hc i (by omega)]
theorem setS_nat {n k : Nat} (S : Nat → Bool) (u : Bool) (hk : k < n) : setS n S (k : Int) u = upd S k u := by
  unfold setS onB
  rw [decide_eq_true (show (0 : Int) ≤ (k : Int) by omega), decide_eq_true (show (k : Int) < (n : Int) by omega)]
  simp only [Bool.and_self, cond_true, Int.toNat_natCast]
theorem sets_calls (s : Pg) (d : Dk) (n : Nat) (S : Nat → Bool) (i : Int) (u : Bool) (hn : n ≤ 1024) (w : World) (hw : ∀ it ∈ [pgI s d], Here it w) :
    Ct Tryz.prog 71 #[.pointer (some ⟨s.b, 0, none⟩), .agg (mapC n S), .int .i64 i, .bool u] w (foots [pgI s d]) (fun _ : Unit => .tuple #[]) (fun _ => True) (fun _ => [pgI { s with C := insG s.C 0 (bmB n (setS n S i u)) } d]) := by
  refine cu_of [_, _, _, _] _ Tryz.func71 rfl rfl hw (.cons (fun _ h => nomatch h) .nil) ?_
  simp only [argSlots, Nat.reduceAdd]
  refine t_imp (m' := pgL s d) (fun w h => pg_open (m := []) h) ?_
  unfold pgL
  refine goA ?_
  refine l_boxa rfl rfl fun b5 hb5 => ?_
  refine goA ?_
  refine t_pick [5, 0, 1, 2, 3, 4] rfl rfl ?_
  refine t_drawm [1, 2, 3, 4, 5] 12 rfl rfl (by kernel_rfl) ?_
  refine goE ?_
  refine d_opg 7 ⟨by kernel_rfl, by decide⟩ rfl rfl (o_pure rfl (by kernel_rfl) rfl (fun w1 hw1 => mset_calls n S i u hn w1)) (fun _ _ h => goH h) fun _ => ?_
  refine goE ?_
  refine d_opg 8 ⟨by kernel_rfl, by decide⟩ rfl rfl (o_ct rfl (by kernel_rfl) rfl (fun w1 hw1 => mbytes_calls n (setS n S i u) hn w1)) (fun _ _ h => goH h) fun ⟨x, hx⟩ => ?_
  rw [bmB_cells]
  have hbl : (bytesV (bmB n (setS n S i u))).length = 512 := by rw [bytesV_length, bmB_len]
  generalize bmB n (setS n S i u) = bs at hbl ⊢
  simp only [List.cons_append, List.nil_append]
  refine goE ?_
  refine d_v [] rfl rfl (by kernel_rfl) (fun _ h => by first | exact h | exact Hp.sub h (.cons _ (.refl _)) | exact Hp.sub h (.cons _ (.cons _ (.refl _))) | exact Hp.sub h (.cons _ (.cons _ (.cons _ (.refl _)))) | exact Hp.sub h (.cons _ (.cons _ (.cons _ (.cons _ (.refl _))))) | exact Hp.sub h (.cons _ (.cons _ (.cons _ (.cons _ (.cons _ (.refl _)))))) | exact Hp.sub h (.cons _ (.cons _ (.cons _ (.cons _ (.cons _ (.cons _ (.refl _))))))) | exact Hp.sub h (.cons_cons _ (.cons_cons _ (List.nil_sublist _))) | exact Hp.sub h (.cons _ (.cons_cons _ (.cons_cons _ (List.nil_sublist _))))) rfl rfl (v_s2ap rfl rfl (by decide)) ?_
  refine d_opg 10 ⟨by kernel_rfl, by decide⟩ rfl rfl (o_val rfl (v_loadcE (xs := bytesV bs) (c := (bytesV bs).toArray) rfl (by rw [hbl]; rfl) (fun w' hw' => rangeAt_pt (hw'.get (b := x) (.head _))) rfl)) (fun _ _ h => goH h) fun _ => ?_
  refine d_opg 11 ⟨by kernel_rfl, by decide⟩ rfl rfl (ho_perm (bring1 _ _ _) (o_mapupN (h := 0) (v := pgV bs) rfl rfl rfl rfl rfl rfl (okI (by decide)))) (fun _ _ h => goH h) fun _ => ?_
  refine d_end (by kernel_rfl) ?_
  refine goA ?_
  rw [← toP_ins]
  refine x_imp (m' := [pgI { s with C := insG s.C 0 bs } d]) (fun w' hw' => ?_) (x_ct0N () rfl rfl trivial (.refl _) (pg1_stable _ _))
  exact pg_close (s := { s with C := insG s.C 0 bs }) (m := []) (hw'.pick [3, 4, 5, 6, 0] rfl rfl)
theorem mtake_bm (b n : Nat) (S : Nat → Bool) (h1 : 1 ≤ n) (hn : n ≤ 1024) (hc : Canon n S) (c : Nat) (w : World) (h : (rdI b (bmB n S)).prop w) : Pu Tryz.prog 105 #[.slice (some ⟨b, 0, none⟩) 512 c, .int .i64 (n : Int)] w (.tuple #[.agg (mapC n S), .int .i64 0]) := by
  have hb := bits_canon hn hc
  have := mtake_ok b 0 c (fun j => byte (trunc S n) j) n h1 hn w (fun i hi => h.1 i _ (bmB_at hi)) (fun j hj hb1 => by
    have h2 := congrFun hb j
    rw [show trunc (bitsOf fun j => byte (trunc S n) j) 4096 j = (decide (j < 4096) && bitsOf (fun j => byte (trunc S n) j) j) from rfl, hb1, decide_eq_true hj] at h2
    rcases Nat.lt_or_ge j n with h | h
    · exact h
    · rw [hc j h] at h2; cases h2)
  rw [hb] at this
  exact this
theorem pgused_calls (s : Pg) (d : Dk) (ok : d.D.Ok) (hlive : d.D.dead = false) (hwl : d.D.wait.length ≤ 1000000000) (hdead : s.dead = false) (sok : s.Ok d.D) (h1 : 1 ≤ s.n) (S : Nat → Bool) (hS : pageB s d.D 0 = bmB s.n S) (hc : Canon s.n S) (h0 : S 0 = true) (w : World) (hw : ∀ it ∈ [pgI s d, dkI d], Here it w) (ha : [pgI s d, dkI d].Pairwise Eng.Item.Apart) :
    Ct Tryz.prog 54 #[.pointer (some ⟨s.b, 0, none⟩)] w (foots [pgI s d, dkI d]) (fun _ : Unit => .tuple #[.agg (mapC s.n S), .int .i64 0]) (fun _ => True) (fun _ => [pgI (pageS s d.D 0) d, dkI d]) := by
  refine cu_of [_] _ Tryz.func54 rfl rfl hw ha ?_
  simp only [argSlots]
  refine goA ?_
  refine l_alloca rfl rfl fun b2 hb2 => ?_
  refine goA ?_
  refine l_pick [1, 2, 0] rfl rfl ?_
  refine l_opg rfl (o_cu (pre := [pgI s d, dkI d]) rfl (by kernel_rfl) rfl (pd_stable s d) (fun w1 hw1 hh1 ha1 => pgpage_calls s d ok hlive hwl hdead sok 0 h1 w1 hh1 ha1)) fun ⟨x, _⟩ => ?_
  rw [hS]
  have hsn : (pageS s d.D 0).n = s.n ∧ (pageS s d.D 0).b = s.b := by unfold pageS; split <;> exact ⟨rfl, rfl⟩
  generalize pageS s d.D 0 = s1 at hsn ⊢
  obtain ⟨hsn, hsb⟩ := hsn
  rw [← hsb]
  dsimp only
  refine goA ?_
  refine l_w rfl (v_load (v := .int .i64 (s.n : Int)) rfl rfl (fun w' hw' => pg_at (Here.of (hw'.item (pgI s1 d) (by simp)) (pgI_stable _ _)) 2 (by rw [← hsn]; rfl))) ?_
  refine goA ?_
  refine l_opg rfl (o_pure rfl (by kernel_rfl) rfl (fun w1 hw1 => mtake_bm x s.n S h1 sok.n hc 512 w1 (hw1.item (rdI x (bmB s.n S)) (by simp)).1)) fun _ => ?_
  refine goA ?_
  refine l_alloca rfl rfl fun b6 hb6 => ?_
  refine l_op rfl (o_storea (cs' := mapC s.n S) rfl rfl rfl (by rw [mapC_size]; rfl) (mapC_one _ _) (by rw [mapC_size]; rfl)) fun _ => ?_
  refine goA ?_
  refine l_opg rfl (o_pure rfl (by kernel_rfl) rfl (fun w1 _ => mhas_calls s.n S 0 sok.n w1)) fun _ => ?_
  rw [show hasS s.n S 0 = true by unfold hasS; rw [show (0 : Int).toNat = 0 from rfl, h0, Bool.or_true]]
  refine goA ?_
  refine l_op rfl (ho_perm (bring4 _ _ _ _ _ _) (o_storea (cs' := mapC s.n S) rfl rfl rfl (by rw [mapC_size]; rfl) (mapC_one _ _) (by rw [mapC_size]; rfl))) fun _ => ?_
  refine goA ?_
  exact x_ct2 () rfl ⟨_, rfl, loada_run (by rw [mapC_size]; rfl) (.head _)⟩ rfl rfl trivial (.cons _ (.cons _ (.cons _ (.refl _)))) (pd_stable _ _)
theorem pgusedn_calls (s : Pg) (d : Dk) (ok : d.D.Ok) (hlive : d.D.dead = false) (hwl : d.D.wait.length ≤ 1000000000) (hdead : s.dead = false) (sok : s.Ok d.D) (h1 : 1 ≤ s.n) (S : Nat → Bool) (hS : pageB s d.D 0 = bmB s.n S) (hc : Canon s.n S) (h0 : S 0 = true) (w : World) (hw : ∀ it ∈ [pgI s d, dkI d], Here it w) (ha : [pgI s d, dkI d].Pairwise Eng.Item.Apart) :
    Ct Tryz.prog 18 #[.pointer (some ⟨s.b, 0, none⟩)] w (foots [pgI s d, dkI d]) (fun _ : Unit => .int .i64 (cnt S 1024 : Nat)) (fun _ => True) (fun _ => [pgI (pageS s d.D 0) d, dkI d]) := by
  refine cu_of [_] _ Tryz.func18 rfl rfl hw ha ?_
  simp only [argSlots]
  refine goA ?_
  refine l_opg rfl (o_cu (pre := [pgI s d, dkI d]) rfl (by kernel_rfl) rfl (pd_stable s d) (fun w1 hw1 hh1 ha1 => pgused_calls s d ok hlive hwl hdead sok h1 S hS hc h0 w1 hh1 ha1)) fun ⟨_, _⟩ => ?_
  refine goA ?_
  refine l_alloca rfl rfl fun b6 hb6 => ?_
  refine l_op rfl (o_storea (cs' := mapC s.n S) rfl rfl rfl (by rw [mapC_size]; rfl) (mapC_one _ _) (by rw [mapC_size]; rfl)) fun _ => ?_
  refine goA ?_
  refine l_opg rfl (o_pure rfl (by kernel_rfl) rfl (fun w1 _ => mused_calls s.n S w1)) fun _ => ?_
  refine goA ?_
  exact x_ct () rfl rfl rfl trivial (.cons _ (.refl _)) (pd_stable _ _)
def tzI : Eng.Item := ⟨fun k => k = 0, fun w => TabW w⟩
theorem tzI_stable (ro : Nat → Prop) : tzI.Stable ro := fun _ _ h hp => ⟨(h _ (.inr rfl)).trans hp.obj⟩
def freeS (s : Pg) (D : Dsk) (S : Nat → Bool) (i : Nat) (u : Bool) : Pg := { pageS s D 0 with C := insG (pageS s D 0).C 0 (bmB s.n (upd S i u)) }
theorem pgfree_calls (s : Pg) (d : Dk) (ok : d.D.Ok) (hlive : d.D.dead = false) (hwl : d.D.wait.length ≤ 1000000000) (hdead : s.dead = false) (sok : s.Ok d.D) (h1 : 1 ≤ s.n) (S : Nat → Bool) (hS : pageB s d.D 0 = bmB s.n S) (hc : Canon s.n S) (h0 : S 0 = true) (i : Nat) (hi : i < s.n) (w : World) (hw : ∀ it ∈ [pgI s d, dkI d], Here it w) (ha : [pgI s d, dkI d].Pairwise Eng.Item.Apart) :
    Ct Tryz.prog 23 #[.pointer (some ⟨s.b, 0, none⟩), .int .i64 (i : Int)] w (foots [pgI s d, dkI d]) (fun _ : Unit => .int .i64 (if i = 0 ∨ S i = false then 2 else 0 : Nat)) (fun _ => True) (fun _ => [pgI (if i = 0 ∨ S i = false then pageS s d.D 0 else freeS s d.D S i false) d, dkI d]) := by
  refine cu_of [_, _] _ Tryz.func23 rfl rfl hw ha ?_
  simp only [argSlots, Nat.reduceAdd]
  refine goA ?_
  refine l_opg rfl (o_pure rfl (by kernel_rfl) rfl (fun w1 hw1 => may_calls s d i w1 (Here.of (hw1.item _ (.head _)) (pgI_stable s d)))) fun _ => ?_
  rw [show mayK s i = 0 by rw [mayK, if_neg (by omega), hdead]; rfl]
  refine goA ?_
  refine l_opg rfl (o_cu (pre := [pgI s d, dkI d]) rfl (by kernel_rfl) rfl (pd_stable s d) (fun w1 hw1 hh1 ha1 => pgused_calls s d ok hlive hwl hdead sok h1 S hS hc h0 w1 hh1 ha1)) fun ⟨_, _⟩ => ?_
  have hfr : freeS s d.D S i false = { pageS s d.D 0 with C := insG (pageS s d.D 0).C 0 (bmB s.n (upd S i false)) } := rfl
  rw [hfr]
  have hsn : (pageS s d.D 0).n = s.n ∧ (pageS s d.D 0).b = s.b := by unfold pageS; split <;> exact ⟨rfl, rfl⟩
  generalize pageS s d.D 0 = s1 at hsn ⊢
  obtain ⟨hsn, hsb⟩ := hsn
  rw [← hsb]
  refine goA ?_
  refine l_alloca rfl rfl fun b6 hb6 => ?_
  refine l_op rfl (o_storea (cs' := mapC s.n S) rfl rfl rfl (by rw [mapC_size]; rfl) (mapC_one _ _) (by rw [mapC_size]; rfl)) fun _ => ?_
  refine goA ?_
  by_cases hi0 : i = 0
  · subst hi0
    rw [if_pos (.inl rfl), if_pos (.inl rfl)]
    refine goA ?_
    exact x_ct () rfl rfl rfl trivial (.cons _ (.refl _)) (pd_stable _ _)
  · refine goA ?_
    refine l_opg rfl (o_pure rfl (by kernel_rfl) rfl (fun w1 _ => mhas_calls s.n S i sok.n w1)) fun _ => ?_
    rw [show hasS s.n S i = S i by unfold hasS onB; simp; omega]
    cases hSi : S i with
    | false =>
      rw [if_pos (.inr rfl), if_pos (.inr rfl)]
      refine goA ?_
      exact x_ct () rfl rfl rfl trivial (.cons _ (.refl _)) (pd_stable _ _)
    | true =>
      rw [if_neg (by simp [hi0]), if_neg (by simp [hi0])]
      refine goA ?_
      refine l_pick [1, 0, 2] rfl rfl ?_
      refine l_opg rfl (o_cu (pre := [pgI s1 d]) rfl (by kernel_rfl) rfl (pg1_stable s1 d) (fun w1 hw1 hh1 ha1 => sets_calls s1 d s.n S i false sok.n w1 hh1)) fun ⟨_, _⟩ => ?_
      rw [setS_nat S false hi]
      refine goA ?_
      exact x_ct () rfl rfl rfl trivial (.cons_cons _ (.cons _ (.refl _))) (pd_stable _ _)
def zeroB : Bys := List.replicate 512 0
theorem pdt_stable (s : Pg) (d : Dk) : ∀ it ∈ [pgI s d, dkI d, tzI], it.Stable none' := by
  intro it hm
  rcases hm with _ | ⟨_, _ | ⟨_, _ | ⟨_, hm⟩⟩⟩
  · exact pgI_stable s d
  · exact bundle_stable _
  · exact tzI_stable _
  · exact nomatch hm
theorem pgalloc_none (s : Pg) (d : Dk) (ok : d.D.Ok) (hlive : d.D.dead = false) (hwl : d.D.wait.length ≤ 1000000000) (hdead : s.dead = false) (sok : s.Ok d.D) (h1 : 1 ≤ s.n) (S : Nat → Bool) (hS : pageB s d.D 0 = bmB s.n S) (hc : Canon s.n S) (hl : ∀ j, j < s.n → S j = true) (w : World) (hw : ∀ it ∈ [pgI s d, dkI d, tzI], Here it w) (ha : [pgI s d, dkI d, tzI].Pairwise Eng.Item.Apart) :
    Ct Tryz.prog 20 #[.pointer (some ⟨s.b, 0, none⟩)] w (foots [pgI s d, dkI d, tzI]) (fun _ : Unit => .tuple #[.int .i64 0, .int .i64 5]) (fun _ => True) (fun _ => [pgI (pageS s d.D 0) d, dkI d, tzI]) := by
  refine cu_of [_] _ Tryz.func20 rfl rfl hw ha ?_
  simp only [argSlots]
  refine goA ?_
  refine l_opg rfl (o_cu (pre := [pgI s d, dkI d]) rfl (by kernel_rfl) rfl (pd_stable s d) (fun w1 hw1 hh1 ha1 => pgused_calls s d ok hlive hwl hdead sok h1 S hS hc (hl 0 h1) w1 hh1 ha1)) fun ⟨_, _⟩ => ?_
  refine goA ?_
  refine l_alloca rfl rfl fun b6 hb6 => ?_
  refine l_op rfl (o_storea (cs' := mapC s.n S) rfl rfl rfl (by rw [mapC_size]; rfl) (mapC_one _ _) (by rw [mapC_size]; rfl)) fun _ => ?_
  refine goA ?_
  refine l_opg rfl (o_pure rfl (by kernel_rfl) rfl (fun w1 hw1 => mfind_none s.n S sok.n hl w1 (hw1.item tzI (by simp)).1)) fun _ => ?_
  refine goA ?_
  exact x_ct2 () rfl rfl rfl rfl trivial (.cons _ (.refl _)) (pdt_stable _ _)
def allocS (s : Pg) (D : Dsk) (S : Nat → Bool) (a : Nat) : Pg := { pageS s D 0 with C := insG (insG (pageS s D 0).C 0 (bmB s.n (upd S a true))) a zeroB }
theorem pgalloc_some (s : Pg) (d : Dk) (ok : d.D.Ok) (hlive : d.D.dead = false) (hwl : d.D.wait.length ≤ 1000000000) (hdead : s.dead = false) (sok : s.Ok d.D) (S : Nat → Bool) (hS : pageB s d.D 0 = bmB s.n S) (hc : Canon s.n S) (h0 : S 0 = true) (a : Nat) (han : a < s.n) (hSa : S a = false) (hl : ∀ j, j < a → S j = true) (w : World) (hw : ∀ it ∈ [pgI s d, dkI d, tzI], Here it w) (ha : [pgI s d, dkI d, tzI].Pairwise Eng.Item.Apart) :
    Ct Tryz.prog 20 #[.pointer (some ⟨s.b, 0, none⟩)] w (foots [pgI s d, dkI d, tzI]) (fun _ : Unit => .tuple #[.int .i64 (a : Int), .int .i64 0]) (fun _ => True) (fun _ => [pgI (allocS s d.D S a) d, dkI d, tzI]) := by
  refine cu_of [_] _ Tryz.func20 rfl rfl hw ha ?_
  simp only [argSlots]
  refine goA ?_
  refine l_opg rfl (o_cu (pre := [pgI s d, dkI d]) rfl (by kernel_rfl) rfl (pd_stable s d) (fun w1 hw1 hh1 ha1 => pgused_calls s d ok hlive hwl hdead sok (by omega) S hS hc h0 w1 hh1 ha1)) fun ⟨_, _⟩ => ?_
  have hfr : allocS s d.D S a = { pageS s d.D 0 with C := insG (insG (pageS s d.D 0).C 0 (bmB s.n (upd S a true))) a zeroB } := rfl
  rw [hfr]
  have hsn : (pageS s d.D 0).n = s.n ∧ (pageS s d.D 0).b = s.b := by unfold pageS; split <;> exact ⟨rfl, rfl⟩
  generalize pageS s d.D 0 = s1 at hsn ⊢
  obtain ⟨hsn, hsb⟩ := hsn
  have hn := sok.n
  rw [← hsb]
  refine goA ?_
  refine l_alloca rfl rfl fun b6 hb6 => ?_
  refine l_op rfl (o_storea (cs' := mapC s.n S) rfl rfl rfl (by rw [mapC_size]; rfl) (mapC_one _ _) (by rw [mapC_size]; rfl)) fun _ => ?_
  refine goA ?_
  refine l_opg rfl (o_pure rfl (by kernel_rfl) rfl (fun w1 hw1 => mfind_some s.n S a sok.n han hSa hl w1 (hw1.item tzI (by simp)).1)) fun _ => ?_
  refine goA ?_
  refine l_pick [1, 0, 2, 3] rfl rfl ?_
  refine l_opg rfl (o_cu (pre := [pgI s1 d]) rfl (by kernel_rfl) rfl (pg1_stable s1 d) (fun w1 hw1 hh1 ha1 => sets_calls s1 d s.n S a true sok.n w1 hh1)) fun ⟨_, _⟩ => ?_
  rw [setS_nat S true han]
  refine goA ?_
  refine l_imp (m' := pgL { s1 with C := insG s1.C 0 (bmB s.n (upd S a true)) } d ++ [pt b6 (.cells (mapC s.n S) 92 (0, 0)), dkI d, tzI]) (fun w h => pg_open (m := [pt b6 (.cells (mapC s.n S) 92 (0, 0)), dkI d, tzI]) h) ?_
  unfold pgL
  refine goA ?_
  refine l_w rfl (v_builda rfl rfl rfl rfl rfl) ?_
  refine l_say 32 _ (pgV zeroB) rfl (by rfl) ?_
  refine l_say 30 _ (.map (some s1.cb)) rfl rfl ?_
  refine l_pick [4, 0, 1, 2, 3, 5, 6, 7] rfl rfl ?_
  refine l_op rfl (o_mapupN (h := a) (v := pgV zeroB) rfl rfl rfl rfl rfl rfl (okI (by omega))) fun _ => ?_
  simp only [← toP_ins]
  refine goA ?_
  refine x_imp (m' := [pgI { s1 with C := insG (insG s1.C 0 (bmB s.n (upd S a true))) a zeroB } d, dkI d, tzI]) (fun w' hw' => ?_) (x_ct2 () rfl rfl rfl rfl trivial (.refl _) (pdt_stable _ _))
  exact pg_close (s := { s1 with C := insG (insG s1.C 0 (bmB s.n (upd S a true))) a zeroB }) (m := [dkI d, tzI]) (hw'.pick [1, 2, 3, 4, 0, 6, 7] rfl rfl)
end Go.Proofs.YtplhamichcnmmaaGreatDoor

namespace Go.Proofs.YtplhamichcnmmaaGreatDoor
open Go.RowKit Go.Eng Go.Eng.Bm
set_option maxRecDepth 100000
set_option maxHeartbeats 40000000
theorem pgI_b {s : Pg} {d d' : Dk} (h : d'.b = d.b) : pgI s d' = pgI s d := by unfold pgI pgL pgC lgI pgA lgA; rw [h]
def rowsS (A : PR) : PR := (srtN (A.map (·.1))).map fun i => (i, (A.lookup i).getD [])
def wsP (secs : Nat) (A : PR) : List (Nat × Bys) := (rowsS A).map fun p => (2 + secs + p.1, p.2)
theorem srtN_len (L : List Nat) : (srtN L).length = L.length := List.length_mergeSort L
theorem srtN_mem {L : List Nat} {x : Nat} : x ∈ srtN L ↔ x ∈ L := List.mem_mergeSort
theorem keys_look {A : PR} {i : Nat} (h : i ∈ A.map (·.1)) : ∃ b, A.lookup i = some b := by
  obtain ⟨p, hp, rfl⟩ := List.mem_map.1 h
  cases hl : A.lookup p.1 with
  | some b => exact ⟨b, rfl⟩
  | none =>
    have : ∀ B : PR, p ∈ B → B.lookup p.1 ≠ none := by
      intro B
      induction B with
      | nil => intro h; cases h
      | cons q B ih =>
        intro h hn
        rw [List.lookup_cons] at hn
        by_cases e : p.1 = q.1
        · rw [e] at hn; simp at hn
        · rcases List.mem_cons.1 h with rfl | h
          · exact e rfl
          · rw [show (p.1 == q.1) = false by simpa using e] at hn
            exact ih h hn
    exact absurd hl (this A hp)
theorem rowsS_ok {A : PR} {n : Nat} (h : A.Ok n) : (rowsS A).Ok n := by
  intro p hp
  obtain ⟨i, hi, rfl⟩ := List.mem_map.1 hp
  obtain ⟨b, hb⟩ := keys_look (srtN_mem.1 hi)
  have := h _ (lookup_memG hb)
  simp only [hb, Option.getD_some]
  exact this
theorem wrtL_stable (d : Dk) (s : Pg) (lb : Nat) (A : PR) : ∀ it ∈ [dkI d, pgI s d, mapN .i64 lb (toP A)], it.Stable none' := by
  intro it hm
  rcases hm with _ | ⟨_, _ | ⟨_, _ | ⟨_, hm⟩⟩⟩
  · exact bundle_stable _
  · exact pgI_stable _ _
  · exact mapN_stable _ _ _ _
  · exact nomatch hm
theorem written_calls (s : Pg) (d : Dk) (lb : Nat) (A : PR) (ok : d.D.Ok) (hkl : d.D.keep.length ≤ 1000000) (hwl : d.D.wait.length + A.length ≤ 1000000) (hn : s.n ≤ 1024) (hsecs : s.g.h.secs < 65536) (hA : A.Ok s.n) (w : World)
    (hw : ∀ it ∈ [dkI d, pgI s d, mapN .i64 lb (toP A)], Here it w) (ha : [dkI d, pgI s d, mapN .i64 lb (toP A)].Pairwise Eng.Item.Apart) :
    Ct Tryz.prog 50 #[.pointer (some ⟨s.b, 0, none⟩), .map (some lb)] w (foots [dkI d, pgI s d, mapN .i64 lb (toP A)]) (fun _ : Dk => .int .i64 ((wrsF d.D (wsP s.g.h.secs A)).1 : Nat)) (dkOf d (wrsF d.D (wsP s.g.h.secs A)).2) (fun d' => [dkI d', pgI s d', mapN .i64 lb (toP A)]) := by
  refine cu_of [_, _] _ Tryz.func50 rfl rfl hw ha ?_
  simp only [argSlots, Nat.reduceAdd]
  refine goA ?_
  refine l_ctg rfl rfl (by kernel_rfl) rfl (fun w1 hw1 => keys_calls lb w1) fun x hx => ?_
  refine goA ?_
  refine l_pick [0, 3, 1, 2] rfl rfl ?_
  have hkl2 : (toP A).length = A.length := by simp [toP]
  have hke : keysN (toP A) = A.map (·.1) := by simp [keysN, toP, Function.comp_def]
  refine l_opg rfl (o_cu (pre := kyI x lb (toP A)) rfl (by kernel_rfl) rfl (kyI_stable _ _ _) (fun w1 hw1 hh1 ha1 => sortedkeys_calls x lb (toP A) (by omega) w1 hh1 ha1)) fun ⟨o, _⟩ => ?_
  rw [hkl2, hke]
  dsimp only
  refine l_fact (fun w hw => (own_val (hw.item (own 3 1 o A.length (intsV (srtN (A.map (·.1))))) (.head _)).1)) fun ⟨hsl, hcap⟩ => ?_
  rw [hsl]
  refine goA ?_
  have hrl : (rowsS A).length = A.length := by rw [rowsS, List.length_map, srtN_len, List.length_map]
  have hwsl : (wsP s.g.h.secs A).length = A.length := by rw [wsP, List.length_map, hrl]
  have hro := rowsS_ok hA
  have hwsk : ∀ k (hk : k < A.length), (wsP s.g.h.secs A).take (k + 1) = (wsP s.g.h.secs A).take k ++ [(2 + s.g.h.secs + ((rowsS A)[k]'(by omega)).1, ((rowsS A)[k]'(by omega)).2)] := fun k hk => by
    rw [List.take_add_one, wsP, List.getElem?_map, List.getElem?_eq_getElem (by omega)]
    rfl
  have hokk : ∀ k, (wrsF d.D ((wsP s.g.h.secs A).take k)).2.Ok := fun k => wrsF_ok _ _ ok
  have hkeepk : ∀ k, k ≤ A.length → (wrsF d.D ((wsP s.g.h.secs A).take k)).1 = 0 → (wrsF d.D ((wsP s.g.h.secs A).take k)).2.keep = d.D.keep ∧ (wrsF d.D ((wsP s.g.h.secs A).take k)).2.wait.length = d.D.wait.length + k := fun k hk h0 => by
    have := wrsF_keep ((wsP s.g.h.secs A).take k) d.D ok h0
    rw [List.length_take, hwsl, Nat.min_eq_left hk] at this
    exact this
  have hbad : ∀ k, (wrsF d.D ((wsP s.g.h.secs A).take k)).1 ≠ 0 → wrsF d.D (wsP s.g.h.secs A) = wrsF d.D ((wsP s.g.h.secs A).take k) := fun k hk => by
    have h1 := wrsF_bad ((wsP s.g.h.secs A).take k) ((wsP s.g.h.secs A).drop k) d.D hk
    rw [List.take_append_drop] at h1
    exact h1
  have hall : wrsF d.D ((wsP s.g.h.secs A).take A.length) = wrsF d.D (wsP s.g.h.secs A) := by rw [List.take_of_length_le (by omega)]
  refine t_for (α := Nat × Dk) (fun y => [(0, .pointer (some ⟨s.b, 0, none⟩)), (1, .map (some lb)), (11, .slice (slA o) A.length (slC o)), (12, .int .i64 A.length), (13, .int .i64 y.1)]) (fun y => y.1 ≤ A.length ∧ (wrsF d.D ((wsP s.g.h.secs A).take y.1)).1 = 0 ∧ dkOf d (wrsF d.D ((wsP s.g.h.secs A).take y.1)).2 y.2) (fun y => [dkI y.2, pgC s d, lgI s.bl d s.g, mapN .i64 s.kb (toP s.K), mapN .i64 s.db (toB s.R), mapN .i64 s.cb (toP s.C), mapN .i64 lb (toP A), own 3 1 o A.length (intsV (srtN (A.map (·.1))))]) (fun y => A.length - y.1) (0, d) ⟨rfl, rfl, rfl, rfl, rfl, trivial⟩ ⟨Nat.zero_le _, rfl, rfl, rfl, rfl⟩ (fun w hw => (pg_open (m := [dkI d, mapN .i64 lb (toP A), own 3 1 o A.length (intsV (srtN (A.map (·.1))))]) (hw.pick [3, 2, 1, 0] rfl rfl)).pick [5, 0, 1, 2, 3, 4, 6, 7] rfl rfl) fun ⟨k, d1⟩ ⟨hk, h0, hd1⟩ => ?_
  simp only at hk h0 hd1 ⊢
  by_cases hkn : k < A.length
  · have hst : wrsF d.D ((wsP s.g.h.secs A).take (k + 1)) = writeF (wrsF d.D ((wsP s.g.h.secs A).take k)).2 (2 + s.g.h.secs + ((rowsS A)[k]'(by omega)).1) ((rowsS A)[k]'(by omega)).2 := by
      rw [hwsk k hkn, wrsF_snoc, if_pos h0]
    obtain ⟨hkp, hwt⟩ := hkeepk k (by omega) h0
    have hokd := hokk k
    have hbad2 := hbad (k + 1)
    generalize wrsF d.D ((wsP s.g.h.secs A).take k) = r at *
    obtain ⟨hd1a, hd1b, hd1c⟩ := hd1
    rw [← hd1c] at hkp hwt hokd hst
    have hin := hro _ (List.getElem_mem (l := rowsS A) (n := k) (by omega))
    have hsk : (srtN (A.map (·.1)))[k]? = some ((rowsS A)[k]'(by omega)).1 := by
      rw [List.getElem?_eq_getElem (by rw [srtN_len, List.length_map]; exact hkn)]
      simp [rowsS]
    have hlk : A.lookup ((rowsS A)[k]'(by omega)).1 = some ((rowsS A)[k]'(by omega)).2 := by
      have h1 : ((rowsS A)[k]'(by omega)).1 ∈ A.map (·.1) := srtN_mem.1 (List.mem_of_getElem? hsk)
      obtain ⟨b, hb⟩ := keys_look h1
      rw [hb]
      simp only [rowsS, List.getElem_map] at hb ⊢
      rw [hb]
      rfl
    generalize (rowsS A)[k]'(by omega) = p at hst hin hsk hlk
    obtain ⟨i, bs⟩ := p
    simp only at hst hin hsk hlk
    rcases o with _ | ⟨ob, oc⟩
    · refine t_fact (fun w hw => (hw.item (own 3 1 none A.length (intsV (srtN (A.map (·.1))))) (by simp)).1.2) fun h => ?_
      exact absurd h (by omega)
    have hcell : ∀ {m : List Eng.Item} {w2 : World} {F2 : Nat → Prop} (w' : World), Hp w2 F2 m w' → own 3 1 (some (ob, oc)) A.length (intsV (srtN (A.map (·.1)))) ∈ m → w'.cell? ⟨ob, k, none⟩ = some (.int .i64 (i : Int)) := fun w' hw' hm => own_rd (hw'.item _ hm).1 k _ (by simp [intsV, hsk])
    simp only [slA, slC]
    have hbl : (bytesV bs).length = 512 := by rw [bytesV_length, hin.2]
    refine goA ?_
    refine l_w rfl (v_load (v := .int .i64 (i : Int)) rfl rfl (fun w' hw' => by rw [Nat.zero_add]; exact hcell w' hw' (by simp))) ?_
    refine goA ?_
    refine l_w rfl (v_lookN1 (q := .i64) (h := i) (A := toP A) (b := lb) rfl rfl rfl rfl rfl (okI (by omega)) (by simp)) ?_
    rw [toP_lookup, hlk]
    simp only [Option.map_some, Option.getD_some, pgV]
    refine goA ?_
    refine l_alloca rfl rfl fun b7 hb7 => ?_
    refine l_op rfl (o_storea (cs' := (bytesV bs).toArray) rfl rfl rfl (by rw [List.size_toArray, hbl]; rfl) (bytesV_one _) (by rw [List.size_toArray, hbl]; rfl)) fun _ => ?_
    refine goA ?_
    refine t_pick [1, 0, 2, 3, 4, 5, 6, 7, 8] rfl rfl ?_
    refine t_drawm [1, 2, 3, 4, 5, 6, 7, 8] 14 rfl rfl (by kernel_rfl) ?_
    (repeat first | (apply d_w [11] rfl rfl rfl (by kernel_rfl) (fun _ h => by first | exact h | exact Hp.sub h (.cons _ (.refl _)) | exact Hp.sub h (.cons _ (.cons _ (.refl _))) | exact Hp.sub h (.cons _ (.cons _ (.cons _ (.refl _)))) | exact Hp.sub h (.cons _ (.cons _ (.cons _ (.cons _ (.refl _))))) | exact Hp.sub h (.cons _ (.cons _ (.cons _ (.cons _ (.cons _ (.refl _)))))) | exact Hp.sub h (.cons _ (.cons _ (.cons _ (.cons _ (.cons _ (.cons _ (.refl _))))))) | exact Hp.sub h (.cons_cons _ (.cons_cons _ (List.nil_sublist _))) | exact Hp.sub h (.cons _ (.cons_cons _ (.cons_cons _ (List.nil_sublist _))))); focus (first | exact v_move rfl | exact v_assign rfl | exact v_bt rfl rfl | exact v_extract rfl rfl | exact v_field0 rfl rfl | exact v_field rfl rfl | exact v_lens rfl rfl | exact v_lenstr rfl rfl | exact v_nt rfl | exact v_load1p rfl rfl (by repeat first | exact .head _ | apply List.Mem.tail) | exact v_loadn rfl rfl (by repeat first | exact .head _ | apply List.Mem.tail) rfl | exact v_loadp rfl rfl (by repeat first | exact .head _ | apply List.Mem.tail) rfl | exact v_loada rfl rfl (by repeat first | exact .head _ | apply List.Mem.tail) | exact v_eqb rfl rfl rfl | exact v_slA rfl rfl rfl | exact v_builds rfl rfl rfl rfl rfl | exact v_eqs rfl rfl | exact v_nc rfl | exact v_caps rfl rfl | exact v_eqpn rfl rfl rfl | exact v_nepn rfl rfl rfl | exact v_neps rfl rfl rfl rfl | ((first | refine v_bn rfl rfl ?_ | refine v_is1 rfl rfl rfl ?_ | refine v_ia1 rfl rfl rfl ?_ | refine v_sa rfl rfl rfl ?_ | refine v_sF rfl rfl rfl ?_ | refine v_sT rfl rfl rfl ?_ | refine v_sFT rfl rfl rfl rfl ?_ | refine v_lF rfl rfl rfl rfl ?_ | refine v_is rfl rfl rfl ?_ | refine v_ia rfl rfl rfl ?_ | refine v_lT rfl rfl rfl rfl ?_ | refine v_cv rfl rfl rfl ?_ | refine v_slLH rfl rfl rfl rfl rfl ?_ | refine v_sl3 rfl rfl rfl rfl rfl ?_); first | omega | assumption) | exact v_pT rfl rfl (by first | omega | assumption | (simp; done) | exact fun h => h (by assumption) | fail) | exact v_pF rfl rfl (by first | omega | assumption | (simp; done) | exact fun h => h (by assumption) | fail) | exact v_pickB rfl rfl rfl)) | refine d_no [11] rfl rfl rfl (by kernel_rfl) (fun _ h => by first | exact h | exact Hp.sub h (.cons _ (.refl _)) | exact Hp.sub h (.cons _ (.cons _ (.refl _))) | exact Hp.sub h (.cons _ (.cons _ (.cons _ (.refl _)))) | exact Hp.sub h (.cons _ (.cons _ (.cons _ (.cons _ (.refl _))))) | exact Hp.sub h (.cons _ (.cons _ (.cons _ (.cons _ (.cons _ (.refl _)))))) | exact Hp.sub h (.cons _ (.cons _ (.cons _ (.cons _ (.cons _ (.cons _ (.refl _))))))) | exact Hp.sub h (.cons_cons _ (.cons_cons _ (List.nil_sublist _))) | exact Hp.sub h (.cons _ (.cons_cons _ (.cons_cons _ (List.nil_sublist _))))) ?_ | refine d_T [11] rfl rfl rfl rfl (by first | omega | assumption | (simp; done) | exact fun h => h (by assumption) | fail) ?_ | refine d_F [11] rfl rfl rfl rfl (by first | omega | assumption | (simp; done) | exact fun h => h (by assumption) | fail) ?_)
    refine d_v [8] rfl rfl (by kernel_rfl) (fun _ h => by first | exact h | exact Hp.sub h (.cons _ (.refl _)) | exact Hp.sub h (.cons _ (.cons _ (.refl _))) | exact Hp.sub h (.cons _ (.cons _ (.cons _ (.refl _)))) | exact Hp.sub h (.cons _ (.cons _ (.cons _ (.cons _ (.refl _))))) | exact Hp.sub h (.cons _ (.cons _ (.cons _ (.cons _ (.cons _ (.refl _)))))) | exact Hp.sub h (.cons _ (.cons _ (.cons _ (.cons _ (.cons _ (.cons _ (.refl _))))))) | exact Hp.sub h (.cons_cons _ (.cons_cons _ (List.nil_sublist _))) | exact Hp.sub h (.cons _ (.cons_cons _ (.cons_cons _ (List.nil_sublist _))))) rfl rfl (v_slarr (n := 512) rfl rfl rfl rfl) ?_
    refine d_opg 8 ⟨by kernel_rfl, by decide⟩ rfl rfl (o_pure rfl (by kernel_rfl) rfl (fun w1 hw1 => lgsectors_calls s.bl d s.g w1 (Here.of (hw1.item (lgI s.bl d s.g) (by simp)) (pt_stable _ _ _)))) (fun _ _ h => goH h) fun _ => ?_
    refine goE ?_
    refine d_opg 10 ⟨by kernel_rfl, by decide⟩ rfl rfl (o_pure rfl (by kernel_rfl) rfl (fun w1 hw1 => sector_calls s.g.h.secs i (by omega) (by omega) w1)) (fun _ _ h => goH h) fun _ => ?_
    refine goE ?_
    rw [← hd1a]
    refine d_opg 12 ⟨by kernel_rfl, by decide⟩ rfl rfl (o_cu (pre := [dkI d1]) rfl (by kernel_rfl) rfl (by intro it hm; rcases hm with _ | ⟨_, hm⟩ <;> first | exact bundle_stable _ | exact (nomatch hm)) (fun w1 hw1 hh1 ha1 => dwriteE d1 hokd (by rw [hkp]; exact hkl) (by rw [hwt]; omega) (2 + s.g.h.secs + i) (by omega) bs 512 hin.2 (some ⟨b7, 0, none⟩) 512 (by decide) w1 hh1 (fun w2 hw2 => .inr ⟨b7, 0, rfl, rangeAt_pt (hw1.still (y := pt b7 (.cells (bytesV bs).toArray 113 (0, 0))) (.head _) (pt_stable _ _ _) hw2)⟩))) (fun _ _ h => goH h) fun ⟨d2, hd2⟩ => ?_
    refine goE ?_
    refine d_end (by kernel_rfl) ?_
    dsimp only
    rw [← hst] at hd2 ⊢
    have hok2 : dkOf d (wrsF d.D ((wsP s.g.h.secs A).take (k + 1))).2 d2 := ⟨hd2.1.trans hd1a, hd2.2.1.trans hd1b, hd2.2.2⟩
    refine goA ?_
    by_cases he : (wrsF d.D ((wsP s.g.h.secs A).take (k + 1))).1 = 0
    · have hne : (((wrsF d.D ((wsP s.g.h.secs A).take (k + 1))).1 : Int) != 0) = false := by simp [he]
      rw [hne]
      refine goA ?_
      exact x_round (k + 1, d2) ⟨rfl, rfl, rfl, rfl, rfl, trivial⟩ ⟨hkn, he, hok2⟩ (fun w hw => by exact hw.pick [0, 2, 3, 4, 5, 6, 7, 8] rfl rfl) (by show A.length - (k + 1) < A.length - k; omega)
    · have hne : (((wrsF d.D ((wsP s.g.h.secs A).take (k + 1))).1 : Int) != 0) = true := by simp [he]
      rw [hne, hbad2 he]
      refine goA ?_
      refine x_imp (m' := [dkI d2, pgI s d2, mapN .i64 lb (toP A)]) (fun w' hw' => ?_) (x_ct d2 rfl rfl rfl hok2 (.refl _) (wrtL_stable _ _ _ _))
      rw [pgI_b hok2.1]
      exact (pg_close (m := [dkI d2, mapN .i64 lb (toP A)]) (hw'.pick [2, 3, 4, 5, 6, 0, 7] rfl rfl)).pick [1, 0, 2] rfl rfl
  · obtain rfl : k = A.length := by omega
    rw [hall] at h0 hd1
    rw [h0]
    refine goA ?_
    refine x_imp (m' := [dkI d1, pgI s d1, mapN .i64 lb (toP A)]) (fun w' hw' => ?_) (x_ct d1 rfl rfl rfl hd1 (.refl _) (wrtL_stable _ _ _ _))
    rw [pgI_b hd1.1]
    exact (pg_close (m := [dkI d1, mapN .i64 lb (toP A)]) (hw'.pick [1, 2, 3, 4, 5, 0, 6] rfl rfl)).pick [1, 0, 2] rfl rfl
end Go.Proofs.YtplhamichcnmmaaGreatDoor
