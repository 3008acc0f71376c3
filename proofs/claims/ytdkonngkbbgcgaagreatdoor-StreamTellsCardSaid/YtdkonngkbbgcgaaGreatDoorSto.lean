/- package stream: the stream of bytes. -/
import Derived.Test.YtdkonngkbbgcgaaGreatDoorStn
namespace Go.Eng
open Go.RowKit
theorem t_joinB {P : Program} {Q : Exit → Act → World → Prop} {l : Slots} {w0 : World} {F : Nat → Prop} {m : List Item} {n id : Nat} {ds : List Deferred} {r : Option Nat} {x y : Code} {α : Type} (L : α → Slots) (φ : α → Prop) (M : α → List Item)
    (h : HT P x (Exit.inBlock id (Exit.then (fun a w => ∃ z, φ z ∧ St ⟨n, ds, r⟩ (L z) a ∧ Hp w0 F (M z) w) Q)) ⟨n, ds, r⟩ l (Hp w0 F m)) (k : ∀ z, φ z → HT P y Q ⟨n, ds, r⟩ (L z) (Hp w0 F (M z))) : HT P x (Exit.inBlock id (Exit.then (WP P r y Q) Q)) ⟨n, ds, r⟩ l (Hp w0 F m) := by
  unfold HT at *
  refine fun a w s hw => WP.mono (fun e a' w' q => ?_) (h a w s hw)
  have hn : ∀ a' w', (∃ z, φ z ∧ St ⟨n, ds, r⟩ (L z) a' ∧ Hp w0 F (M z) w') → WP P r y Q a' w' := fun a' w' ⟨z, h1, h2, h3⟩ => k z h1 a' w' h2 h3
  cases e with
  | normal => exact hn a' w' q
  | exit i =>
    simp only [Exit.inBlock] at q ⊢
    split
    · rename_i hi
      rw [if_pos hi] at q
      exact hn a' w' q
    · rename_i hi
      rw [if_neg hi] at q
      exact q
  | _ => exact q
end Go.Eng
namespace Go.Proofs.YtdkonngkbbgcgaaGreatDoor
open Go.RowKit Go.Eng
set_option maxRecDepth 100000
set_option maxHeartbeats 40000000
theorem beN_beV (l : Bys) : beN l.length (beV l) = l := by
  induction l using snoc_ind with
  | h0 => rfl
  | hs l c ih =>
    have hc := c.toNat_lt
    rw [List.length_append, List.length_singleton, beN, beV_snoc, show (beV l * 256 + c.toNat) / 256 = beV l by omega, ih]
    congr 2
    apply UInt8.toNat_inj.1
    simp
theorem sum_iff {bs : Bys} (h : 4 ≤ bs.length) : sumOk bs = true ↔ (crcF (bs.take (bs.length - 4))).toNat = beV (bs.drop (bs.length - 4)) := by
  have hl : (bs.drop (bs.length - 4)).length = 4 := by rw [List.length_drop]; omega
  unfold sumOk sumF
  rw [decide_eq_true_eq]
  constructor
  · intro e
    have := congrArg beV e
    rwa [beV_beN 4 _ (show _ < 256 ^ 4 from (crcF _).isLt)] at this
  · intro e
    rw [e]
    have := beN_beV (bs.drop (bs.length - 4))
    rwa [hl] at this
def noS : Strm := ⟨List.replicate 32 0, []⟩
/-- A stream's cells, its chunks in a row of its own. -/
abbrev strmO (r : Bys) (o : Option (Nat × Nat)) (n : Nat) : Array Value := (bytesV r ++ [slV o n]).toArray
theorem ext_list (s : ByteArray) (i j : Nat) (hj : j ≤ s.size) : (s.extract i j).data.toList = (s.data.toList.take j).drop i := by
  simp [ByteArray.data_extract, List.extract_eq_take_drop, List.drop_take]
theorem ext_mid (bs : Bys) (i j : Nat) (hj : j ≤ bs.length) : (⟨bs.toArray⟩ : ByteArray).extract i j = ⟨((bs.take j).drop i).toArray⟩ := ba_ext (by rw [ext_list _ _ _ (by rw [ba_len]; exact hj)])
theorem ext_drop (bs : Bys) (i : Nat) : (⟨bs.toArray⟩ : ByteArray).extract i (⟨bs.toArray⟩ : ByteArray).size = ⟨(bs.drop i).toArray⟩ := ba_ext (by rw [drop_extract])
theorem ext_take (bs : Bys) (j : Nat) (hj : j ≤ bs.length) : (⟨bs.toArray⟩ : ByteArray).extract 0 j = ⟨(bs.take j).toArray⟩ := by rw [ext_mid bs 0 j hj, List.drop_zero]
theorem strmO_32 (r : Bys) (hr : r.length = 32) (o : Option (Nat × Nat)) (n : Nat) : (strmO r o n)[32]? = some (slV o n) := by
  rw [List.getElem?_toArray, List.getElem?_append_right (by rw [bytesV_length]; omega), bytesV_length, hr]; rfl
theorem strmO_set (r : Bys) (hr : r.length = 32) (o o' : Option (Nat × Nat)) (n n' : Nat) : (strmO r o n).setIfInBounds 32 (slV o' n') = strmO r o' n' := by
  rw [List.setIfInBounds_toArray, List.set_append_right _ _ (by rw [bytesV_length, hr]; exact Nat.le_refl _), bytesV_length, hr]; rfl
theorem strmO_size (r : Bys) (hr : r.length = 32) (o : Option (Nat × Nat)) (n : Nat) : (strmO r o n).size = 33 := by simp [bytesV_length, hr]
theorem strmO_one (r : Bys) (o : Option (Nat × Nat)) (n : Nat) : oneAll (strmO r o n).toList = true := by
  rw [oneAll_iff]
  intro v hv
  rcases List.mem_append.1 hv with hv | hv
  · exact oneAll_iff.1 (bytesV_one _) v hv
  · rw [List.mem_singleton] at hv; subst hv; exact slV_one _ _
structure TS2 where
  i : Nat
  p : Option Addr × Nat
  r : Bys
  cs : List Bys
  o : Option (Nat × Nat)
theorem stake_calls (bs : Bys) (hz : bs.length ≤ 60000) (w : World) (ht : Tabs w) :
    Ct Tryz.prog 13 #[.string ⟨bs.toArray⟩] w none' (fun o : Option (Nat × Nat) => .tuple #[.agg (strmO ((takeF bs).1.getD noS).root o ((takeF bs).1.getD noS).chunks.length), .int .i64 ((takeF bs).2 : Nat)]) (fun _ => True)
      (fun o => [own 9 1 o ((takeF bs).1.getD noS).chunks.length (strs (bas ((takeF bs).1.getD noS).chunks))]) := by
  refine ct_of [_] Tryz.func13 rfl rfl ?_
  simp only [argSlots]
  have hsz := ba_len bs
  obtain ⟨n, hn⟩ : ∃ n, bs.length = n := ⟨_, rfl⟩
  rw [hn] at hsz hz
  (repeat first | with_reducible (first | apply t_seq | apply t_region | apply t_block | apply t_ret | apply t_skip | apply t_exit | apply l_nil | apply x_then | apply x_pass_exit | apply x_pass_ret | apply x_block_ret | apply x_block_normal | apply x_block_here | apply x_block_out rfl) | refine lAv rfl ?_ | refine l_no rfl ?_ | refine tT rfl rfl ?_ | refine tF rfl rfl ?_ | refine lT rfl rfl ?_ | refine lF rfl rfl ?_)
  refine l_alloca rfl rfl fun b2 hb2 => ?_
  (repeat first | with_reducible (first | apply t_seq | apply t_region | apply t_block | apply t_ret | apply t_skip | apply t_exit | apply l_nil | apply x_then | apply x_pass_exit | apply x_pass_ret | apply x_block_ret | apply x_block_normal | apply x_block_here | apply x_block_out rfl) | refine lAv rfl ?_ | refine l_no rfl ?_ | refine tT rfl rfl ?_ | refine tF rfl rfl ?_ | refine lT rfl rfl ?_ | refine lF rfl rfl ?_)
  by_cases h42 : n < 42
  · have hT : takeF bs = (none, 3) := by unfold takeF; rw [if_pos (by omega)]
    rw [hT]
    simp only [Option.getD_none]
    (repeat first | with_reducible (first | apply t_seq | apply t_region | apply t_block | apply t_ret | apply t_skip | apply t_exit | apply l_nil | apply x_then | apply x_pass_exit | apply x_pass_ret | apply x_block_ret | apply x_block_normal | apply x_block_here | apply x_block_out rfl) | refine lAv rfl ?_ | refine l_no rfl ?_ | refine tT rfl rfl ?_ | refine tF rfl rfl ?_ | refine lT rfl rfl ?_ | refine lF rfl rfl ?_)
    refine l_op rfl (o_storea rfl rfl rfl rfl rfl rfl) fun _ => ?_
    (repeat first | with_reducible (first | apply t_seq | apply t_region | apply t_block | apply t_ret | apply t_skip | apply t_exit | apply l_nil | apply x_then | apply x_pass_exit | apply x_pass_ret | apply x_block_ret | apply x_block_normal | apply x_block_here | apply x_block_out rfl) | refine lAv rfl ?_ | refine l_no rfl ?_ | refine tT rfl rfl ?_ | refine tF rfl rfl ?_ | refine lT rfl rfl ?_ | refine lF rfl rfl ?_)
    refine x_imp (fun w hw => hp_nil1 9 1 hw) ?_
    exact x_ct2 none rfl ⟨_, rfl, loada_run rfl (.tail _ (.head _))⟩ rfl rfl trivial (.cons_cons _ (List.nil_sublist _)) (by simp [own_stable])
  · have h4 : 4 ≤ bs.length := by omega
    have hsum := sum_iff h4
    rw [hn] at hsum
    (repeat first | with_reducible (first | apply t_seq | apply t_region | apply t_block | apply t_ret | apply t_skip | apply t_exit | apply l_nil | apply x_then | apply x_pass_exit | apply x_pass_ret | apply x_block_ret | apply x_block_normal | apply x_block_here | apply x_block_out rfl) | refine lAv rfl ?_ | refine l_no rfl ?_ | refine tT rfl rfl ?_ | refine tF rfl rfl ?_ | refine lT rfl rfl ?_ | refine lF rfl rfl ?_)
    refine l_say 17 _ (.string ⟨(bs.drop (n - 4)).toArray⟩) rfl (congrArg Value.string (by rw [← ext_drop, hsz])) ?_
    have hl4 : (bs.drop (n - 4)).length = 4 := by rw [List.length_drop]; omega
    have hs4 : (⟨(bs.drop (n - 4)).toArray⟩ : ByteArray).size = 4 := by rw [ba_len, hl4]
    refine l_op rfl (o_strb rfl rfl rfl rfl) fun ⟨p1, hp1, hp1'⟩ => ?_
    simp only [hs4]
    refine l_ctg rfl rfl (by kernel_rfl) rfl (fun w1 hw1 => Of_calls (some ⟨p1.1, 0, none⟩) 4 p1.2 (bs.drop (n - 4)) hl4 (by decide) w1 (.inr ⟨p1.1, 0, rfl, strRow_at (hw1.item _ (.head _)).1⟩)) fun x hx => ?_
    obtain ⟨be, oE⟩ := x
    simp only at hx ⊢
    generalize hDe : own 5 1 oE 4 (bytesV (bs.drop (n - 4))) = De at hx
    have hsDe : De.Stable none' := by rw [← hDe]; exact own_stable _ _ _ _ _ _
    have hop4 : opN 4 (bs.drop (n - 4), false) = (beV (bs.drop (n - 4)), ([], false)) := by
      have := opN_ok (w := 4) (by have := beV_lt (bs.drop (n - 4)); rw [hl4] at this; exact this) []
      rw [List.append_nil] at this
      have e := beN_beV (bs.drop (n - 4))
      rw [hl4] at e
      rwa [e] at this
    have hV32 : beV (bs.drop (n - 4)) < 4294967296 := by have := beV_lt (bs.drop (n - 4)); rw [hl4] at this; exact this
    (repeat first | with_reducible (first | apply t_seq | apply t_region | apply t_block | apply t_ret | apply t_skip | apply t_exit | apply l_nil | apply x_then | apply x_pass_exit | apply x_pass_ret | apply x_block_ret | apply x_block_normal | apply x_block_here | apply x_block_out rfl) | refine lAv rfl ?_ | refine l_no rfl ?_ | refine tT rfl rfl ?_ | refine tF rfl rfl ?_ | refine lT rfl rfl ?_ | refine lF rfl rfl ?_)
    refine t_join (w0 := w) (F := none') (α := Unit) (fun _ => [(0, .string ⟨bs.toArray⟩), (2, .pointer (some ⟨b2, 0, none⟩)), (30, .bool ((beV (bs.drop (n - 4)) : Int) != ((crcF (bs.take (n - 4))).toNat : Int)))]) (fun _ => True)
      (fun _ => [pt b2 (.cells (strmA (List.replicate 32 0) none 0 0) 38 (0, 0))]) ?_ fun _ _ => ?_
    rotate_left
    · by_cases hV : (crcF (bs.take (n - 4))).toNat = beV (bs.drop (n - 4))
      · have hok := hsum.2 hV
        have hBl : (bs.take (n - 4)).length = n - 4 := by rw [List.length_take]; omega
        have hT : takeF bs = if (parF (bs.take (n - 4))).2.2 = false ∧ mayF (parF (bs.take (n - 4))).1 = true ∧ putF (parF (bs.take (n - 4))).1 = bs then (some (parF (bs.take (n - 4))).1, 0) else (none, 3) := by
          unfold takeF
          rw [hn, if_neg (by omega), if_neg (by rw [hok]; exact fun h => by cases h)]
        have hext := ext_mid bs 4 (n - 4) (by omega)
        generalize hB : bs.take (n - 4) = B at hBl hT hV hext ⊢
        obtain ⟨t, ht32⟩ : ∃ t, (B.drop 4).take 32 = t := ⟨_, rfl⟩
        have htl : t.length = 32 := by rw [← ht32, List.length_take, List.length_drop]; omega
        obtain ⟨n0, hn0⟩ : ∃ n0, beV ((B.drop 36).take 2) = n0 := ⟨_, rfl⟩
        have hn0l : n0 < 65536 := by
          have := beV_lt ((B.drop 36).take 2)
          have h2 : ((B.drop 36).take 2).length = 2 := by rw [List.length_take, List.length_drop]; omega
          rw [hn0, h2] at this
          exact this
        have hpar : parF B = (⟨t, (chF n0 (B.drop 38, false)).1⟩, (chF n0 (B.drop 38, false)).2) := by unfold parF; rw [hn0, ht32]
        have ho32 : opT 32 (B.drop 4, false) = (t, (B.drop 36, false)) := by rw [opT_long (by rw [List.length_drop]; omega), ht32, List.drop_drop]
        have ho2 : opN 2 (B.drop 36, false) = (n0, (B.drop 38, false)) := by unfold opN; rw [opT_long (by rw [List.length_drop]; omega), List.drop_drop, hn0]
        have hdl : (B.drop 4).length = n - 8 := by rw [List.length_drop]; omega
        have hds : (⟨(B.drop 4).toArray⟩ : ByteArray).size = n - 8 := by rw [ba_len, hdl]
        (repeat first | with_reducible (first | apply t_seq | apply t_region | apply t_block | apply t_ret | apply t_skip | apply t_exit | apply l_nil | apply x_then | apply x_pass_exit | apply x_pass_ret | apply x_block_ret | apply x_block_normal | apply x_block_here | apply x_block_out rfl) | refine lAv rfl ?_ | refine l_no rfl ?_ | refine tT rfl rfl ?_ | refine tF rfl rfl ?_ | refine lT rfl rfl ?_ | refine lF rfl rfl ?_)
        refine l_say 36 _ (.string ⟨(B.drop 4).toArray⟩) rfl (congrArg Value.string (by rw [hsz]; exact hext)) ?_
        refine l_op rfl (o_strb rfl rfl rfl rfl) fun ⟨p3, hp3, hp3'⟩ => ?_
        simp only [hds]
        refine l_ctg rfl rfl (by kernel_rfl) rfl (fun w1 hw1 => Of_calls (some ⟨p3.1, 0, none⟩) (n - 8) p3.2 (B.drop 4) hdl (by omega) w1 (.inr ⟨p3.1, 0, rfl, strRow_at (hw1.item _ (.head _)).1⟩)) fun x hx => ?_
        obtain ⟨b, oD⟩ := x
        simp only at hx ⊢
        generalize hD : own 5 1 oD (n - 8) (bytesV (B.drop 4)) = D at hx ⊢
        have hsD : D.Stable none' := by rw [← hD]; exact own_stable _ _ _ _ _ _
        (repeat first | with_reducible (first | apply t_seq | apply t_region | apply t_block | apply t_ret | apply t_skip | apply t_exit | apply l_nil | apply x_then | apply x_pass_exit | apply x_pass_ret | apply x_block_ret | apply x_block_normal | apply x_block_here | apply x_block_out rfl) | refine lAv rfl ?_ | refine l_no rfl ?_ | refine tT rfl rfl ?_ | refine tF rfl rfl ?_ | refine lT rfl rfl ?_ | refine lF rfl rfl ?_)
        refine l_opg rfl (o_cu (pre := [opI b (slA oD) (slC oD) (B.drop 4, false), D]) rfl (by kernel_rfl) rfl (by simp [opI_stable, hsD]) (fun w1 hw1 hh1 ha1 => oHashE t (B.drop 36, false) ho32 hsD hx (by simp only [hdl]; omega) hh1 ha1)) fun ⟨y1, hy1⟩ => ?_
        rw [hash32_id htl]
        have htv : (bytesV t).length = 32 := by rw [bytesV_length, htl]
        refine l_w rfl (v_builds (L := [(0, 32, .agg (bytesV t).toArray)]) rfl rfl rfl rfl (okParts_one (by rw [List.size_toArray, htv]) (by decide))) ?_
        refine l_say 41 _ (.agg (strmO t none 0)) rfl ?_ ?_
        · show Value.agg ((over _ 0 (bytesV t)).toArray) = _
          unfold over
          rw [htv]; rfl
        refine l_alloca rfl rfl fun b6 hb6 => ?_
        refine l_op rfl (o_storea (cs' := strmO t none 0) rfl rfl rfl (by rw [List.size_toArray, List.length_append, htv]; rfl) (by rw [List.toList_toArray]; exact strm_one t none 0 0) (by rw [List.size_toArray, List.length_append, htv]; rfl)) fun _ => ?_
        (repeat first | with_reducible (first | apply t_seq | apply t_region | apply t_block | apply t_ret | apply t_skip | apply t_exit | apply l_nil | apply x_then | apply x_pass_exit | apply x_pass_ret | apply x_block_ret | apply x_block_normal | apply x_block_here | apply x_block_out rfl) | refine lAv rfl ?_ | refine l_no rfl ?_ | refine tT rfl rfl ?_ | refine tF rfl rfl ?_ | refine lT rfl rfl ?_ | refine lF rfl rfl ?_)
        refine l_pick [1, 2, 0, 4] rfl rfl ?_
        refine l_opg rfl (o_cu (pre := [opI b y1.1 y1.2 (B.drop 36, false), D]) rfl (by kernel_rfl) rfl (by simp [opI_stable, hsD]) (fun w1 hw1 hh1 ha1 => oTakeE n0 (B.drop 38, false) ho2 hsD hy1 (.inr (.inl rfl)) (by simp only [List.length_drop]; omega) hh1 ha1)) fun ⟨y2, hy2⟩ => ?_
        (repeat first | with_reducible (first | apply t_seq | apply t_region | apply t_block | apply t_ret | apply t_skip | apply t_exit | apply l_nil | apply x_then | apply x_pass_exit | apply x_pass_ret | apply x_block_ret | apply x_block_normal | apply x_block_here | apply x_block_out rfl) | refine lAv rfl ?_ | refine l_no rfl ?_ | refine tT rfl rfl ?_ | refine tF rfl rfl ?_ | refine lT rfl rfl ?_ | refine lF rfl rfl ?_)
        obtain ⟨cs, stF, hch⟩ : ∃ cs s, chF n0 (B.drop 38, false) = (cs, s) := ⟨_, _, rfl⟩
        rw [hch] at hpar
        refine t_joinB (w0 := w) (F := none') (α := (Option Addr × Nat) × Option (Nat × Nat)) (fun _ => [(0, .string ⟨bs.toArray⟩), (2, .pointer (some ⟨b2, 0, none⟩)), (5, .pointer (some ⟨b, 0, none⟩)), (6, .pointer (some ⟨b6, 0, none⟩))]) (fun z => OpOk D z.1.1 z.1.2 stF.1)
          (fun z => [opI b z.1.1 z.1.2 stF, D, own 9 1 z.2 cs.length (strs (bas cs)), pt b2 (.cells (strmA (List.replicate 32 0) none 0 0) 38 (0, 0)), pt b6 (.cells (strmO t z.2 cs.length) 38 (0, 0))]) ?_ fun ⟨⟨aF, cF⟩, oF⟩ hO => ?_
        · refine t_for (α := TS2) (fun y => [(0, .string ⟨bs.toArray⟩), (2, .pointer (some ⟨b2, 0, none⟩)), (5, .pointer (some ⟨b, 0, none⟩)), (6, .pointer (some ⟨b6, 0, none⟩)), (43, .int .u64 n0), (44, .int .u64 y.i)])
            (fun y => y.i ≤ n0 ∧ y.cs.length = y.i ∧ OpOk D y.p.1 y.p.2 y.r ∧ y.r.length ≤ n ∧ (cs, stF) = (y.cs ++ (chF (n0 - y.i) (y.r, false)).1, (chF (n0 - y.i) (y.r, false)).2))
            (fun y => [opI b y.p.1 y.p.2 (y.r, false), D, own 9 1 y.o y.i (strs (bas y.cs)), pt b2 (.cells (strmA (List.replicate 32 0) none 0 0) 38 (0, 0)), pt b6 (.cells (strmO t y.o y.i) 38 (0, 0))]) (fun y => n0 - y.i) ⟨0, y2, B.drop 38, [], none⟩ ⟨rfl, rfl, rfl, rfl, rfl, rfl, trivial⟩ ⟨Nat.zero_le _, rfl, hy2, by simp only [List.length_drop]; omega, hch.symm⟩
            (fun w' hw' => (hp_nil1 9 1 hw').pick [1, 2, 0, 4, 3] rfl rfl) fun ⟨i, pp, r, c', o⟩ ⟨g1, g2, g3, g4, g5⟩ => ?_
          simp only at g1 g2 g3 g4 g5 ⊢
          by_cases hi2 : i < n0
          · obtain ⟨m, hm⟩ : ∃ m, n0 - i = m + 1 := ⟨n0 - i - 1, by omega⟩
            have hm2 : n0 - (i + 1) = m := by omega
            obtain ⟨v, st2, hv2⟩ : ∃ v s, opN 2 (r, false) = (v, s) := ⟨_, _, rfl⟩
            obtain ⟨tx, st3, hv3⟩ : ∃ t s, opT v st2 = (t, s) := ⟨_, _, rfl⟩
            have hst2l : st2.1.length ≤ n := by have := opT_rest 2 (r, false); have e : (opT 2 (r, false)).2 = st2 := congrArg Prod.snd hv2; rw [e] at this; exact Nat.le_trans this g4
            have hst3l : st3.1.length ≤ n := by have := opT_rest v st2; rw [hv3] at this; exact Nat.le_trans this hst2l
            have hvl : v < 65536 := by have := opN_lt 2 (r, false); rw [hv2] at this; exact this
            have hchs : chF (m + 1) (r, false) = (tx :: (chF m st3).1, (chF m st3).2) := by
              rw [chF, if_neg (by exact Bool.false_ne_true), hv2]
              simp only
              rw [hv3]
            rw [hm, hchs] at g5
            have h32 := strmO_32 t htl o i
            (repeat first | with_reducible (first | apply t_seq | apply t_region | apply t_block | apply t_ret | apply t_skip | apply t_exit | apply l_nil | apply x_then | apply x_pass_exit | apply x_pass_ret | apply x_block_ret | apply x_block_normal | apply x_block_here | apply x_block_out rfl) | refine lAv rfl ?_ | refine l_no rfl ?_ | refine tT rfl rfl ?_ | refine tF rfl rfl ?_ | refine lT rfl rfl ?_ | refine lF rfl rfl ?_)
            refine t_drawm [4] 10 rfl rfl (by kernel_rfl) ?_
            (repeat first | refine dAv [] rfl rfl rfl ?_ | refine dno [] rfl rfl rfl ?_ | refine dT [] rfl rfl rfl rfl ?_ | refine dF [] rfl rfl rfl rfl ?_)
            refine d_v [] rfl rfl (by kernel_rfl) (fun _ h => by first | exact h | exact Hp.sub h (.cons _ (.refl _)) | exact Hp.sub h (.cons _ (.cons _ (.refl _))) | exact Hp.sub h (.cons _ (.cons _ (.cons _ (.refl _)))) | exact Hp.sub h (.cons _ (.cons _ (.cons _ (.cons _ (.refl _))))) | exact Hp.sub h (.cons _ (.cons _ (.cons _ (.cons _ (.cons _ (.refl _)))))) | exact Hp.sub h (.cons _ (.cons _ (.cons _ (.cons _ (.cons _ (.cons _ (.refl _)))))))) rfl rfl (v_loadp rfl rfl (.head _) h32) ?_
            (repeat first | refine dAv [] rfl rfl rfl ?_ | refine dno [] rfl rfl rfl ?_ | refine dT [] rfl rfl rfl rfl ?_ | refine dF [] rfl rfl rfl rfl ?_)
            refine d_opg 4 ⟨by kernel_rfl, by decide⟩ rfl rfl (o_cu (pre := [opI b pp.1 pp.2 (r, false), D]) rfl (by kernel_rfl) rfl (by simp [opI_stable, hsD]) (fun w1 hw1 hh1 ha1 => oTakeE v st2 hv2 hsD g3 (.inr (.inl rfl)) (by simp only; omega) hh1 ha1)) (fun _ _ h => by first | exact h | exact Hp.sub h (.cons _ (.refl _)) | exact Hp.sub h (.cons _ (.cons _ (.refl _))) | exact Hp.sub h (.cons _ (.cons _ (.cons _ (.refl _)))) | exact Hp.sub h (.cons _ (.cons _ (.cons _ (.cons _ (.refl _))))) | exact Hp.sub h (.cons _ (.cons _ (.cons _ (.cons _ (.cons _ (.refl _)))))) | exact Hp.sub h (.cons _ (.cons _ (.cons _ (.cons _ (.cons _ (.cons _ (.refl _)))))))) fun ⟨y3, hy3⟩ => ?_
            (repeat first | refine dAv [] rfl rfl rfl ?_ | refine dno [] rfl rfl rfl ?_ | refine dT [] rfl rfl rfl rfl ?_ | refine dF [] rfl rfl rfl rfl ?_)
            refine d_opg 6 ⟨by kernel_rfl, by decide⟩ rfl rfl (o_cu (pre := [opI b y3.1 y3.2 st2, D]) rfl (by kernel_rfl) rfl (by simp [opI_stable, hsD]) (fun w1 hw1 hh1 ha1 => oTextE (n := v) tx st3 hv3 hsD hy3 (by omega) hh1 ha1)) (fun _ _ h => by first | exact h | exact Hp.sub h (.cons _ (.refl _)) | exact Hp.sub h (.cons _ (.cons _ (.refl _))) | exact Hp.sub h (.cons _ (.cons _ (.cons _ (.refl _)))) | exact Hp.sub h (.cons _ (.cons _ (.cons _ (.cons _ (.refl _))))) | exact Hp.sub h (.cons _ (.cons _ (.cons _ (.cons _ (.cons _ (.refl _)))))) | exact Hp.sub h (.cons _ (.cons _ (.cons _ (.cons _ (.cons _ (.cons _ (.refl _)))))))) fun ⟨y4, hy4⟩ => ?_
            (repeat first | refine dAv [] rfl rfl rfl ?_ | refine dno [] rfl rfl rfl ?_ | refine dT [] rfl rfl rfl rfl ?_ | refine dF [] rfl rfl rfl rfl ?_)
            refine d_opg 7 ⟨by kernel_rfl, by decide⟩ rfl rfl (o_buildslice rfl rfl rfl rfl rfl rfl) (fun _ _ h => by first | exact h | exact Hp.sub h (.cons _ (.refl _)) | exact Hp.sub h (.cons _ (.cons _ (.refl _))) | exact Hp.sub h (.cons _ (.cons _ (.cons _ (.refl _)))) | exact Hp.sub h (.cons _ (.cons _ (.cons _ (.cons _ (.refl _))))) | exact Hp.sub h (.cons _ (.cons _ (.cons _ (.cons _ (.cons _ (.refl _)))))) | exact Hp.sub h (.cons _ (.cons _ (.cons _ (.cons _ (.cons _ (.cons _ (.refl _)))))))) fun ⟨bq, hbq⟩ => ?_
            (repeat first | refine dAv [] rfl rfl rfl ?_ | refine dno [] rfl rfl rfl ?_ | refine dT [] rfl rfl rfl rfl ?_ | refine dF [] rfl rfl rfl rfl ?_)
            refine d_opg 8 ⟨by kernel_rfl, by decide⟩ rfl rfl (ho_perm (bring3 _ _ _ _ _) (o_append (news := [.string ⟨tx.toArray⟩]) rfl rfl rfl rfl rfl rfl rfl rfl (by omega) (fun w' hw' j v hj => by rw [add_at, Nat.zero_add]; exact own_rd (hw'.item _ (.tail _ (.head _))).1 j v hj))) (fun _ _ h => by first | exact h | exact Hp.sub h (.cons _ (.refl _)) | exact Hp.sub h (.cons _ (.cons _ (.refl _))) | exact Hp.sub h (.cons _ (.cons _ (.cons _ (.refl _)))) | exact Hp.sub h (.cons _ (.cons _ (.cons _ (.cons _ (.refl _))))) | exact Hp.sub h (.cons _ (.cons _ (.cons _ (.cons _ (.cons _ (.refl _)))))) | exact Hp.sub h (.cons _ (.cons _ (.cons _ (.cons _ (.cons _ (.cons _ (.refl _)))))))) fun o' => ?_
            (repeat first | refine dAv [] rfl rfl rfl ?_ | refine dno [] rfl rfl rfl ?_ | refine dT [] rfl rfl rfl rfl ?_ | refine dF [] rfl rfl rfl rfl ?_)
            refine d_tail ⟨by kernel_rfl, by kernel_rfl⟩ rfl rfl (ho_perm (bring5 _ _ _ _ _ _ _) (o_store1 rfl rfl rfl rfl (slV_cells _ _) (slV_one _ _) (by rw [strmO_size t htl]; decide))) fun _ => ?_
            rw [strmO_set t htl]
            have hbs2 : strs (bas c') ++ [Value.string ⟨tx.toArray⟩] = strs (bas (c' ++ [tx])) := by simp [strs, bas]
            rw [hbs2]
            refine x_pick [3, 4, 1, 5, 0] rfl rfl ?_
            (repeat first | with_reducible (first | apply t_seq | apply t_region | apply t_block | apply t_ret | apply t_skip | apply t_exit | apply l_nil | apply x_then | apply x_pass_exit | apply x_pass_ret | apply x_block_ret | apply x_block_normal | apply x_block_here | apply x_block_out rfl) | refine lAv rfl ?_ | refine l_no rfl ?_ | refine tT rfl rfl ?_ | refine tF rfl rfl ?_ | refine lT rfl rfl ?_ | refine lF rfl rfl ?_)
            refine l_opg rfl (o_pure rfl (by kernel_rfl) rfl (fun w1 hw1 => err_calls b y4.1 y4.2 st3 w1 ⟨(hw1.item (opI b y4.1 y4.2 st3) (by simp)).1, opI_stable _ _ _ _, fun k hk => ((hw1.item (opI b y4.1 y4.2 st3) (by simp)).2.2 k hk).1⟩)) fun _ => ?_
            obtain ⟨r3, bad3⟩ := st3
            cases bad3 with
            | true =>
              have hz3 : chF m (r3, true) = ([], (r3, true)) := by cases m <;> simp [chF]
              rw [hz3] at g5
              have e1 : cs = c' ++ [tx] := congrArg Prod.fst g5
              have e2 : stF = (r3, true) := congrArg Prod.snd g5
              have e3 : cs.length = i + 1 := by rw [e1, List.length_append, g2]; rfl
              simp only [if_true]
              (repeat first | with_reducible (first | apply t_seq | apply t_region | apply t_block | apply t_ret | apply t_skip | apply t_exit | apply l_nil | apply x_then | apply x_pass_exit | apply x_pass_ret | apply x_block_ret | apply x_block_normal | apply x_block_here | apply x_block_out rfl) | refine lAv rfl ?_ | refine l_no rfl ?_ | refine tT rfl rfl ?_ | refine tF rfl rfl ?_ | refine lT rfl rfl ?_ | refine lF rfl rfl ?_)
              refine x_join (y4, o') ⟨rfl, rfl, rfl, rfl, trivial⟩ (by rw [e2]; exact hy4) (fun w' hw' => ?_)
              rw [e3]
              rw [e2, e1]
              exact hw'
            | false =>
              simp only [if_neg Bool.false_ne_true]
              (repeat first | with_reducible (first | apply t_seq | apply t_region | apply t_block | apply t_ret | apply t_skip | apply t_exit | apply l_nil | apply x_then | apply x_pass_exit | apply x_pass_ret | apply x_block_ret | apply x_block_normal | apply x_block_here | apply x_block_out rfl) | refine lAv rfl ?_ | refine l_no rfl ?_ | refine tT rfl rfl ?_ | refine tF rfl rfl ?_ | refine lT rfl rfl ?_ | refine lF rfl rfl ?_)
              refine x_round ⟨i + 1, y4, r3, c' ++ [tx], o'⟩ ⟨rfl, rfl, rfl, rfl, rfl, rfl, trivial⟩ ⟨hi2, by simp only [List.length_append, List.length_singleton, g2], hy4, hst3l, ?_⟩ (fun w' hw' => hw') (by simp only; omega)
              simp only [hm2]
              rw [g5, List.append_assoc]; rfl
          · obtain rfl : i = n0 := by omega
            rw [Nat.sub_self] at g5
            have e1 : cs = c' := by have := congrArg Prod.fst g5; simpa [chF] using this
            have e2 : stF = (r, false) := by have := congrArg Prod.snd g5; simpa [chF] using this
            (repeat first | with_reducible (first | apply t_seq | apply t_region | apply t_block | apply t_ret | apply t_skip | apply t_exit | apply l_nil | apply x_then | apply x_pass_exit | apply x_pass_ret | apply x_block_ret | apply x_block_normal | apply x_block_here | apply x_block_out rfl) | refine lAv rfl ?_ | refine l_no rfl ?_ | refine tT rfl rfl ?_ | refine tF rfl rfl ?_ | refine lT rfl rfl ?_ | refine lF rfl rfl ?_)
            refine x_join (pp, o) ⟨rfl, rfl, rfl, rfl, trivial⟩ (by rw [e2]; exact g3) (fun w' hw' => ?_)
            rw [e2, e1, g2]
            exact hw'
        · have hcsb : (chP cs).length ≤ n + 2 := by
            have := chF_bound n0 (B.drop 38, false)
            rw [hch, if_neg (by exact Bool.false_ne_true)] at this
            simp only [List.length_drop] at this
            omega
          have hmany : cs.length ≤ 100000 := by have := chP_count cs; omega
          have hlong : ∀ x ∈ cs, x.length ≤ 65535 := fun x hx => by have := chP_mem cs x hx; omega
          refine t_fact (fun w hw => (own_val (hw.item (own 9 1 oF cs.length (strs (bas cs))) (by simp)).1)) fun ⟨hsl, hcap⟩ => ?_
          have hso : strmO t oF cs.length = strmA t (slA oF) cs.length (slC oF) := by unfold strmO strmA; rw [hsl]
          rw [hpar] at hT
          simp only at hT
          have hno : ¬ (stF.2 = false ∧ mayF ⟨t, cs⟩ = true ∧ putF ⟨t, cs⟩ = bs) → takeF bs = (none, 3) := fun h => by rw [hT, if_neg h]
          (repeat first | with_reducible (first | apply t_seq | apply t_region | apply t_block | apply t_ret | apply t_skip | apply t_exit | apply l_nil | apply x_then | apply x_pass_exit | apply x_pass_ret | apply x_block_ret | apply x_block_normal | apply x_block_here | apply x_block_out rfl) | refine lAv rfl ?_ | refine l_no rfl ?_ | refine tT rfl rfl ?_ | refine tF rfl rfl ?_ | refine lT rfl rfl ?_ | refine lF rfl rfl ?_)
          refine l_w rfl (v_loada rfl (by rw [strmO_size t htl]; rfl) (.tail _ (.tail _ (.tail _ (.tail _ (.head _)))))) ?_
          refine l_say 61 _ (.agg (strmA t (slA oF) cs.length (slC oF))) rfl (congrArg Value.agg hso) ?_
          refine l_opg rfl (o_pure rfl (by kernel_rfl) rfl (fun w1 hw1 => sput_calls t cs (slA oF) (slC oF) htl w1 ⟨(own_StrL (hw1.item (own 9 1 oF cs.length (strs (bas cs))) (by simp)).1).2, hmany, hlong⟩ (ht.keep hw1))) fun _ => ?_
          (repeat first | with_reducible (first | apply t_seq | apply t_region | apply t_block | apply t_ret | apply t_skip | apply t_exit | apply l_nil | apply x_then | apply x_pass_exit | apply x_pass_ret | apply x_block_ret | apply x_block_normal | apply x_block_here | apply x_block_out rfl) | refine lAv rfl ?_ | refine l_no rfl ?_ | refine tT rfl rfl ?_ | refine tF rfl rfl ?_ | refine lT rfl rfl ?_ | refine lF rfl rfl ?_)
          refine l_opg rfl (o_pure rfl (by kernel_rfl) rfl (fun w1 hw1 => err_calls b aF cF stF w1 ⟨(hw1.item (opI b aF cF stF) (by simp)).1, opI_stable _ _ _ _, fun k hk => ((hw1.item (opI b aF cF stF) (by simp)).2.2 k hk).1⟩)) fun _ => ?_
          by_cases hF : stF.2 = false
          · simp only [hF, if_neg Bool.false_ne_true]
            by_cases hm : mayF ⟨t, cs⟩ = true
            · simp only [hm, if_true]
              by_cases hq : putF ⟨t, cs⟩ = bs
              · have hyes : takeF bs = (some ⟨t, cs⟩, 0) := by rw [hT, if_pos ⟨hF, hm, hq⟩]
                rw [hyes, hq]
                simp only [Option.getD_some]
                (repeat first | with_reducible (first | apply t_seq | apply t_region | apply t_block | apply t_ret | apply t_skip | apply t_exit | apply l_nil | apply x_then | apply x_pass_exit | apply x_pass_ret | apply x_block_ret | apply x_block_normal | apply x_block_here | apply x_block_out rfl) | refine lAv rfl ?_ | refine l_no rfl ?_ | refine tT rfl rfl ?_ | refine tF rfl rfl ?_ | refine lT rfl rfl ?_ | refine lF rfl rfl ?_)
                refine l_w rfl (v_loada rfl (by rw [strmO_size t htl]; rfl) (.tail _ (.tail _ (.tail _ (.tail _ (.head _)))))) ?_
                refine l_op rfl (ho_perm (bring3 _ _ _ _ _) (o_storea (cs' := strmO t oF cs.length) rfl rfl rfl (by rw [strmO_size t htl]; rfl) (strmO_one _ _ _) (by rw [strmO_size t htl]; rfl))) fun _ => ?_
                (repeat first | with_reducible (first | apply t_seq | apply t_region | apply t_block | apply t_ret | apply t_skip | apply t_exit | apply l_nil | apply x_then | apply x_pass_exit | apply x_pass_ret | apply x_block_ret | apply x_block_normal | apply x_block_here | apply x_block_out rfl) | refine lAv rfl ?_ | refine l_no rfl ?_ | refine tT rfl rfl ?_ | refine tF rfl rfl ?_ | refine lT rfl rfl ?_ | refine lF rfl rfl ?_)
                exact x_ct2 oF rfl ⟨_, rfl, loada_run (by rw [strmO_size t htl]; rfl) (.head _)⟩ rfl rfl trivial (.cons _ (.cons _ (.cons _ (.cons_cons _ (List.nil_sublist _))))) (by simp [own_stable])
              · have hq2 : ¬ (⟨(putF ⟨t, cs⟩).toArray⟩ : ByteArray) = ⟨bs.toArray⟩ := fun e => hq (by have := congrArg (fun b => b.data.toList) e; simpa using this)
                have hn0 := hno fun h => hq h.2.2
                simp only [hn0, Option.getD_none, noS]
                (repeat first | with_reducible (first | apply t_seq | apply t_region | apply t_block | apply t_ret | apply t_skip | apply t_exit | apply l_nil | apply x_then | apply x_pass_exit | apply x_pass_ret | apply x_block_ret | apply x_block_normal | apply x_block_here | apply x_block_out rfl) | refine lAv rfl ?_ | refine l_no rfl ?_ | refine tT rfl rfl ?_ | refine tF rfl rfl ?_ | refine lT rfl rfl ?_ | refine lF rfl rfl ?_)
                refine l_op rfl (ho_perm (bring3 _ _ _ _ _) (o_storea rfl rfl rfl rfl rfl rfl)) fun _ => ?_
                (repeat first | with_reducible (first | apply t_seq | apply t_region | apply t_block | apply t_ret | apply t_skip | apply t_exit | apply l_nil | apply x_then | apply x_pass_exit | apply x_pass_ret | apply x_block_ret | apply x_block_normal | apply x_block_here | apply x_block_out rfl) | refine lAv rfl ?_ | refine l_no rfl ?_ | refine tT rfl rfl ?_ | refine tF rfl rfl ?_ | refine lT rfl rfl ?_ | refine lF rfl rfl ?_)
                refine x_imp (fun w hw => hp_nil1 9 1 hw) ?_
                exact x_ct2 none rfl ⟨_, rfl, loada_run rfl (.tail _ (.head _))⟩ rfl rfl trivial (.cons_cons _ (List.nil_sublist _)) (by simp [own_stable])
            · have hmf : mayF ⟨t, cs⟩ = false := by simpa using hm
              have hn0 := hno fun h => hm h.2.1
              simp only [hmf, if_neg Bool.false_ne_true, hn0, Option.getD_none, noS]
              (repeat first | with_reducible (first | apply t_seq | apply t_region | apply t_block | apply t_ret | apply t_skip | apply t_exit | apply l_nil | apply x_then | apply x_pass_exit | apply x_pass_ret | apply x_block_ret | apply x_block_normal | apply x_block_here | apply x_block_out rfl) | refine lAv rfl ?_ | refine l_no rfl ?_ | refine tT rfl rfl ?_ | refine tF rfl rfl ?_ | refine lT rfl rfl ?_ | refine lF rfl rfl ?_)
              refine l_op rfl (ho_perm (bring3 _ _ _ _ _) (o_storea rfl rfl rfl rfl rfl rfl)) fun _ => ?_
              (repeat first | with_reducible (first | apply t_seq | apply t_region | apply t_block | apply t_ret | apply t_skip | apply t_exit | apply l_nil | apply x_then | apply x_pass_exit | apply x_pass_ret | apply x_block_ret | apply x_block_normal | apply x_block_here | apply x_block_out rfl) | refine lAv rfl ?_ | refine l_no rfl ?_ | refine tT rfl rfl ?_ | refine tF rfl rfl ?_ | refine lT rfl rfl ?_ | refine lF rfl rfl ?_)
              refine x_imp (fun w hw => hp_nil1 9 1 hw) ?_
              exact x_ct2 none rfl ⟨_, rfl, loada_run rfl (.tail _ (.head _))⟩ rfl rfl trivial (.cons_cons _ (List.nil_sublist _)) (by simp [own_stable])
          · have hFt : stF.2 = true := by simpa using hF
            have hn0 := hno fun h => hF h.1
            simp only [hFt, if_true, hn0, Option.getD_none, noS]
            (repeat first | with_reducible (first | apply t_seq | apply t_region | apply t_block | apply t_ret | apply t_skip | apply t_exit | apply l_nil | apply x_then | apply x_pass_exit | apply x_pass_ret | apply x_block_ret | apply x_block_normal | apply x_block_here | apply x_block_out rfl) | refine lAv rfl ?_ | refine l_no rfl ?_ | refine tT rfl rfl ?_ | refine tF rfl rfl ?_ | refine lT rfl rfl ?_ | refine lF rfl rfl ?_)
            refine l_op rfl (ho_perm (bring3 _ _ _ _ _) (o_storea rfl rfl rfl rfl rfl rfl)) fun _ => ?_
            (repeat first | with_reducible (first | apply t_seq | apply t_region | apply t_block | apply t_ret | apply t_skip | apply t_exit | apply l_nil | apply x_then | apply x_pass_exit | apply x_pass_ret | apply x_block_ret | apply x_block_normal | apply x_block_here | apply x_block_out rfl) | refine lAv rfl ?_ | refine l_no rfl ?_ | refine tT rfl rfl ?_ | refine tF rfl rfl ?_ | refine lT rfl rfl ?_ | refine lF rfl rfl ?_)
            refine x_imp (fun w hw => hp_nil1 9 1 hw) ?_
            exact x_ct2 none rfl ⟨_, rfl, loada_run rfl (.tail _ (.head _))⟩ rfl rfl trivial (.cons_cons _ (List.nil_sublist _)) (by simp [own_stable])
      · have hbad : sumOk bs = false := Bool.eq_false_iff.2 fun h => hV (hsum.1 h)
        have hT : takeF bs = (none, 12) := by
          unfold takeF
          rw [hn, if_neg h42, if_pos hbad]
        have hV' : ¬ beV (bs.drop (n - 4)) = (crcF (bs.take (n - 4))).toNat := fun h => hV h.symm
        rw [hT]
        simp only [Option.getD_none]
        (repeat first | with_reducible (first | apply t_seq | apply t_region | apply t_block | apply t_ret | apply t_skip | apply t_exit | apply l_nil | apply x_then | apply x_pass_exit | apply x_pass_ret | apply x_block_ret | apply x_block_normal | apply x_block_here | apply x_block_out rfl) | refine lAv rfl ?_ | refine l_no rfl ?_ | refine tT rfl rfl ?_ | refine tF rfl rfl ?_ | refine lT rfl rfl ?_ | refine lF rfl rfl ?_)
        refine l_op rfl (o_storea rfl rfl rfl rfl rfl rfl) fun _ => ?_
        (repeat first | with_reducible (first | apply t_seq | apply t_region | apply t_block | apply t_ret | apply t_skip | apply t_exit | apply l_nil | apply x_then | apply x_pass_exit | apply x_pass_ret | apply x_block_ret | apply x_block_normal | apply x_block_here | apply x_block_out rfl) | refine lAv rfl ?_ | refine l_no rfl ?_ | refine tT rfl rfl ?_ | refine tF rfl rfl ?_ | refine lT rfl rfl ?_ | refine lF rfl rfl ?_)
        refine x_imp (fun w hw => hp_nil1 9 1 hw) ?_
        exact x_ct2 none rfl ⟨_, rfl, loada_run rfl (.tail _ (.head _))⟩ rfl rfl trivial (.cons_cons _ (List.nil_sublist _)) (by simp [own_stable])
    refine t_drawm [3] 11 rfl rfl (by kernel_rfl) ?_
    (repeat first | refine dAv [] rfl rfl rfl ?_ | refine dno [] rfl rfl rfl ?_ | refine dT [] rfl rfl rfl rfl ?_ | refine dF [] rfl rfl rfl rfl ?_)
    refine d_say 27 _ (.string ⟨(bs.take (n - 4)).toArray⟩) rfl (congrArg Value.string (by rw [← ext_take bs (n - 4) (by omega), hsz])) ?_
    have hbl : (bs.take (n - 4)).length = n - 4 := by rw [List.length_take]; omega
    have hsT : (⟨(bs.take (n - 4)).toArray⟩ : ByteArray).size = n - 4 := by rw [ba_len, hbl]
    generalize hVv : beV (bs.drop (n - 4)) = V at hop4 hV32 hsum ⊢
    refine d_two 1 8 ⟨by kernel_rfl, by decide, by decide⟩ rfl rfl rfl rfl (o_cu (pre := [opI be (slA oE) (slC oE) (bs.drop (n - 4), false), De]) rfl (by kernel_rfl) rfl (by simp [opI_stable, hsDe]) (fun w1 hw1 hh1 ha1 => oTakeE V ([], false) hop4 hsDe hx (.inr (.inr rfl)) (by simp only [hl4]; decide) hh1 ha1)) (o_strb rfl rfl rfl rfl) (fun _ _ h => by first | exact h | exact Hp.sub h (.cons _ (.refl _)) | exact Hp.sub h (.cons _ (.cons _ (.refl _))) | exact Hp.sub h (.cons _ (.cons _ (.cons _ (.refl _)))) | exact Hp.sub h (.cons _ (.cons _ (.cons _ (.cons _ (.refl _))))) | exact Hp.sub h (.cons _ (.cons _ (.cons _ (.cons _ (.cons _ (.refl _)))))) | exact Hp.sub h (.cons _ (.cons _ (.cons _ (.cons _ (.cons _ (.cons _ (.refl _)))))))) (fun _ _ h => by first | exact h | exact Hp.sub h (.cons _ (.refl _)) | exact Hp.sub h (.cons _ (.cons _ (.refl _))) | exact Hp.sub h (.cons _ (.cons _ (.cons _ (.refl _)))) | exact Hp.sub h (.cons _ (.cons _ (.cons _ (.cons _ (.refl _))))) | exact Hp.sub h (.cons _ (.cons _ (.cons _ (.cons _ (.cons _ (.refl _)))))) | exact Hp.sub h (.cons _ (.cons _ (.cons _ (.cons _ (.cons _ (.cons _ (.refl _)))))))) ?_ ?_
    rintro ⟨y1, hy1⟩
    (repeat first | refine dAv [] rfl rfl rfl ?_ | refine dno [] rfl rfl rfl ?_ | refine dT [] rfl rfl rfl rfl ?_ | refine dF [] rfl rfl rfl rfl ?_)
    refine d_opg 8 ⟨by kernel_rfl, by decide⟩ rfl rfl (o_strb rfl rfl rfl rfl) (fun _ _ h => by first | exact h | exact Hp.sub h (.cons _ (.refl _)) | exact Hp.sub h (.cons _ (.cons _ (.refl _))) | exact Hp.sub h (.cons _ (.cons _ (.cons _ (.refl _)))) | exact Hp.sub h (.cons _ (.cons _ (.cons _ (.cons _ (.refl _))))) | exact Hp.sub h (.cons _ (.cons _ (.cons _ (.cons _ (.cons _ (.refl _)))))) | exact Hp.sub h (.cons _ (.cons _ (.cons _ (.cons _ (.cons _ (.cons _ (.refl _)))))))) fun ⟨p2, hp2, hp2'⟩ => ?_
    rotate_left
    rintro ⟨p2, hp2, hp2'⟩
    refine d_pick [1, 2, 0, 3, 4] rfl rfl ?_
    refine d_opg 1 ⟨by kernel_rfl, by decide⟩ rfl rfl (o_cu (pre := [opI be (slA oE) (slC oE) (bs.drop (n - 4), false), De]) rfl (by kernel_rfl) rfl (by simp [opI_stable, hsDe]) (fun w1 hw1 hh1 ha1 => oTakeE V ([], false) hop4 hsDe hx (.inr (.inr rfl)) (by simp only [hl4]; decide) hh1 ha1)) (fun _ _ h => by first | exact h | exact Hp.sub h (.cons _ (.refl _)) | exact Hp.sub h (.cons _ (.cons _ (.refl _))) | exact Hp.sub h (.cons _ (.cons _ (.cons _ (.refl _)))) | exact Hp.sub h (.cons _ (.cons _ (.cons _ (.cons _ (.refl _))))) | exact Hp.sub h (.cons _ (.cons _ (.cons _ (.cons _ (.cons _ (.refl _)))))) | exact Hp.sub h (.cons _ (.cons _ (.cons _ (.cons _ (.cons _ (.cons _ (.refl _)))))))) fun ⟨y1, hy1⟩ => ?_
    refine d_pick [2, 0, 1, 3, 4] rfl rfl ?_
    all_goals
      simp only [hsT]
      (repeat first | refine dAv [] rfl rfl rfl ?_ | refine dno [] rfl rfl rfl ?_ | refine dT [] rfl rfl rfl rfl ?_ | refine dF [] rfl rfl rfl rfl ?_)
      refine d_opg 9 ⟨by kernel_rfl, by decide⟩ rfl rfl (o_pure rfl (by kernel_rfl) rfl (fun w1 hw1 => crc_calls (some ⟨p2.1, 0, none⟩) (n - 4) p2.2 (bs.take (n - 4)) hbl (by omega) w1 (.inr ⟨p2.1, 0, rfl, strRow_at (hw1.item _ (.head _)).1⟩) (ht.keep hw1))) (fun _ _ h => by first | exact h | exact Hp.sub h (.cons _ (.refl _)) | exact Hp.sub h (.cons _ (.cons _ (.refl _))) | exact Hp.sub h (.cons _ (.cons _ (.cons _ (.refl _)))) | exact Hp.sub h (.cons _ (.cons _ (.cons _ (.cons _ (.refl _))))) | exact Hp.sub h (.cons _ (.cons _ (.cons _ (.cons _ (.cons _ (.refl _)))))) | exact Hp.sub h (.cons _ (.cons _ (.cons _ (.cons _ (.cons _ (.cons _ (.refl _)))))))) fun _ => ?_
      (repeat first | refine dAv [] rfl rfl rfl ?_ | refine dno [] rfl rfl rfl ?_ | refine dT [] rfl rfl rfl rfl ?_ | refine dF [] rfl rfl rfl rfl ?_)
      refine d_end (by kernel_rfl) ?_
      exact x_join () ⟨rfl, rfl, rfl, trivial⟩ trivial (fun w' hw' => hw'.pick [4] rfl rfl)
end Go.Proofs.YtdkonngkbbgcgaaGreatDoor
