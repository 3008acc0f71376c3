/- package chunk: whether a chunk may be. -/
import Derived.Test.YtdkonngkbbgcgaaGreatDoorChx
namespace Go.Proofs.YtdkonngkbbgcgaaGreatDoor
open Go.RowKit Go.Eng
set_option maxRecDepth 100000
set_option maxHeartbeats 40000000
theorem ba_len (s : Bys) : (⟨s.toArray⟩ : ByteArray).size = s.length := by simp [ByteArray.size]
theorem ba_list (s : Bys) : (⟨s.toArray⟩ : ByteArray).toList = s := by rw [ByteArray.toList_eq]
theorem ba_nil {s : Bys} : (⟨s.toArray⟩ : ByteArray) = ⟨#[]⟩ ↔ s = [] := by
  constructor
  · intro h
    have := congrArg (fun b => b.data.toList) h
    simpa using this
  · rintro rfl; rfl
theorem no_may {c : Chk} (h : ¬ MayC c) : mayC c = false := by
  cases hb : mayC c with
  | false => rfl
  | true => exact absurd (mayC_iff.1 hb) h
theorem is_may {c : Chk} {p : Prop} {_ : Decidable p} (h : MayC c ↔ p) : mayC c = decide p := by
  by_cases hp : p
  · rw [decide_eq_true hp]; exact mayC_iff.2 (h.2 hp)
  · rw [decide_eq_false hp]; exact no_may fun hm => hp (h.1 hm)
theorem may_calls (kind : Nat) (data : Bys) (ks : List CKid) (a : Option Addr) (c : Nat) (hk : ∀ k ∈ ks, KidOk k) (hz : ks.length ≤ 1000000) (hdz : data.length ≤ 1000000000) (w : World) (hr : Rd w a (rowsV kidV ks)) :
    Pu Tryz.prog 81 #[.agg #[.int .u8 kind, .string ⟨data.toArray⟩, .slice a ks.length c]] w (.bool (mayC ⟨kind, data, ks⟩)) := by
  refine pu_of [_] Tryz.func81 rfl rfl ?_
  simp only [argSlots]
  (repeat first | with_reducible (first | apply t_seq | apply t_region | apply t_block | apply t_ret | apply t_skip | apply t_exit | apply l_nil | apply x_then | apply x_pass_exit | apply x_pass_ret | apply x_block_ret | apply x_block_normal | apply x_block_here | apply x_block_out rfl) | refine lAv rfl ?_ | refine l_no rfl ?_ | refine tT rfl rfl ?_ | refine tF rfl rfl ?_ | refine lT rfl rfl ?_ | refine lF rfl rfl ?_)
  refine l_boxa rfl rfl fun b1 hb1 => ?_
  (repeat first | with_reducible (first | apply t_seq | apply t_region | apply t_block | apply t_ret | apply t_skip | apply t_exit | apply l_nil | apply x_then | apply x_pass_exit | apply x_pass_ret | apply x_block_ret | apply x_block_normal | apply x_block_here | apply x_block_out rfl) | refine lAv rfl ?_ | refine l_no rfl ?_ | refine tT rfl rfl ?_ | refine tF rfl rfl ?_ | refine lT rfl rfl ?_ | refine lF rfl rfl ?_)
  refine l_opg rfl (o_pure rfl (by kernel_rfl) rfl (fun w1 hw1 => height_calls kind data ks a c hk hz w1 (hr.keep hw1))) fun _ => ?_
  have hds := ba_len data
  have hdn := @ba_nil data
  have hlenI : ∀ {b off : Nat} {m : List Eng.Item} {w' : World} (i : Nat) (hi : i < ks.length), w.rangeAt b off (rowsV kidV ks) → Hp w none' m w' → w'.rangeAt b (off + i * 36) (kidV ks[i]) := fun i hi hr' hw' => Rd.row kidV_len (rangeAt_old hr' (fun h => h) hw') hi
  have hat : ks ≠ [] → ∃ b off, a = some ⟨b, off, none⟩ ∧ w.rangeAt b off (rowsV kidV ks) := fun h => hr.at_ fun e => by
    have := congrArg List.length e
    rw [rowsV_length kidV_len] at this
    exact h (List.eq_nil_of_length_eq_zero (by simp only [List.length_nil] at this; omega))
  have hMay : MayC ⟨kind, data, ks⟩ ↔ hgtF kind ks ≤ 255 ∧ ks.length ≤ 6 ∧ ((kind = 1 ∧ ks = [] ∧ data.length ≤ 240) ∨ (kind = 2 ∧ (∀ k ∈ ks, k.name = [] ∧ k.dir = false) ∧ ks ≠ [] ∧ data = [] ∧ sizeF ⟨kind, data, ks⟩ < 4294967296) ∨ (kind = 3 ∧ (∀ i k, ks[i]? = some k → nameOk ks i k) ∧ data = [])) := Iff.rfl
  by_cases hH : hgtF kind ks ≤ 255
  · by_cases h6 : ks.length ≤ 6
    · by_cases k1 : kind = 1
      · (repeat first | with_reducible (first | apply t_seq | apply t_region | apply t_block | apply t_ret | apply t_skip | apply t_exit | apply l_nil | apply x_then | apply x_pass_exit | apply x_pass_ret | apply x_block_ret | apply x_block_normal | apply x_block_here | apply x_block_out rfl) | refine lAv rfl ?_ | refine l_no rfl ?_ | refine tT rfl rfl ?_ | refine tF rfl rfl ?_ | refine lT rfl rfl ?_ | refine lF rfl rfl ?_)
        by_cases h0 : ks.length = 0
        · have h0' := List.eq_nil_of_length_eq_zero h0
          have hm : mayC ⟨kind, data, ks⟩ = decide (data.length ≤ 240) := is_may (by
            rw [hMay]
            constructor
            · rintro ⟨-, -, ⟨-, -, h⟩ | ⟨h, -⟩ | ⟨h, -⟩⟩ <;> omega
            · exact fun h => ⟨hH, h6, .inl ⟨k1, h0', h⟩⟩)
          (repeat first | with_reducible (first | apply t_seq | apply t_region | apply t_block | apply t_ret | apply t_skip | apply t_exit | apply l_nil | apply x_then | apply x_pass_exit | apply x_pass_ret | apply x_block_ret | apply x_block_normal | apply x_block_here | apply x_block_out rfl) | refine lAv rfl ?_ | refine l_no rfl ?_ | refine tT rfl rfl ?_ | refine tF rfl rfl ?_ | refine lT rfl rfl ?_ | refine lF rfl rfl ?_)
          rw [hm]
          refine x_pu rfl rfl (congrArg Value.bool ?_)
          rw [hds]
          exact decide_eq_decide.2 (by omega)
        · have hm : mayC ⟨kind, data, ks⟩ = false := no_may (by
            rw [hMay]
            rintro ⟨-, -, ⟨-, h, -⟩ | ⟨h, -⟩ | ⟨h, -⟩⟩
            · exact h0 (by rw [h]; rfl)
            · omega
            · omega)
          (repeat first | with_reducible (first | apply t_seq | apply t_region | apply t_block | apply t_ret | apply t_skip | apply t_exit | apply l_nil | apply x_then | apply x_pass_exit | apply x_pass_ret | apply x_block_ret | apply x_block_normal | apply x_block_here | apply x_block_out rfl) | refine lAv rfl ?_ | refine l_no rfl ?_ | refine tT rfl rfl ?_ | refine tF rfl rfl ?_ | refine lT rfl rfl ?_ | refine lF rfl rfl ?_)
          rw [hm]
          exact x_pu rfl rfl rfl
      · by_cases k2 : kind = 2
        · (repeat first | with_reducible (first | apply t_seq | apply t_region | apply t_block | apply t_ret | apply t_skip | apply t_exit | apply l_nil | apply x_then | apply x_pass_exit | apply x_pass_ret | apply x_block_ret | apply x_block_normal | apply x_block_here | apply x_block_out rfl) | refine lAv rfl ?_ | refine l_no rfl ?_ | refine tT rfl rfl ?_ | refine tF rfl rfl ?_ | refine lT rfl rfl ?_ | refine lF rfl rfl ?_)
          refine t_for (α := Nat) (fun i => [(1, .pointer (some ⟨b1, 0, none⟩)), (33, .slice a ks.length c), (34, .int .i64 ks.length), (35, .int .i64 i)]) (fun i => i ≤ ks.length ∧ ∀ k ∈ ks.take i, k.name = [] ∧ k.dir = false)
            (fun _ => [pt b1 (.cells #[.int .u8 kind, .string ⟨data.toArray⟩, .slice a ks.length c] 82 (0, 0))]) (fun i => ks.length - i) 0 ⟨rfl, rfl, rfl, rfl, trivial⟩ ⟨Nat.zero_le _, fun _ h => nomatch h⟩ (fun w' hw' => hw') fun i ⟨hi, hall⟩ => ?_
          by_cases hi2 : i < ks.length
          · obtain ⟨b, off, rfl, hr'⟩ := hat (by rintro rfl; simp at hi2)
            have hko := hk _ (List.getElem_mem hi2)
            have hin := List.getElem_mem hi2
            have hup := List.take_succ_eq_append_getElem hi2
            have hrow : ∀ (m : List Eng.Item) w', Hp w none' m w' → w'.rangeAt b (off + i * 36) (kidV ks[i]) := fun m w' hw' => hlenI i hi2 hr' hw'
            generalize ks[i] = k at hup hko hrow hin
            (repeat first | with_reducible (first | apply t_seq | apply t_region | apply t_block | apply t_ret | apply t_skip | apply t_exit | apply l_nil | apply x_then | apply x_pass_exit | apply x_pass_ret | apply x_block_ret | apply x_block_normal | apply x_block_here | apply x_block_out rfl) | refine lAv rfl ?_ | refine l_no rfl ?_ | refine tT rfl rfl ?_ | refine tF rfl rfl ?_ | refine lT rfl rfl ?_ | refine lF rfl rfl ?_)
            refine l_w rfl (v_loadc (xs := kidV k) rfl (by rw [kidV_len]; rfl) (fun w' hw' => hrow _ w' hw')) ?_
            refine l_alloca rfl rfl fun b4 hb4 => ?_
            refine l_op rfl (o_storea (cs' := (kidV k).toArray) rfl rfl rfl (by rw [List.size_toArray, kidV_len]; rfl) (by rw [List.toList_toArray]; exact kid_one k) (by rw [List.size_toArray, kidV_len]; rfl)) fun _ => ?_
            (repeat first | with_reducible (first | apply t_seq | apply t_region | apply t_block | apply t_ret | apply t_skip | apply t_exit | apply l_nil | apply x_then | apply x_pass_exit | apply x_pass_ret | apply x_block_ret | apply x_block_normal | apply x_block_here | apply x_block_out rfl) | refine lAv rfl ?_ | refine l_no rfl ?_ | refine tT rfl rfl ?_ | refine tF rfl rfl ?_ | refine lT rfl rfl ?_ | refine lF rfl rfl ?_)
            refine l_w rfl (v_loada rfl (by rw [List.size_toArray, kidV_len]; rfl) (.head _)) ?_
            refine l_opg rfl (o_pure rfl (by kernel_rfl) rfl (fun w1 hw1 => plain_calls k hko.1 w1)) fun _ => ?_
            by_cases hp : k.name = [] ∧ k.dir = false
            · (repeat first | with_reducible (first | apply t_seq | apply t_region | apply t_block | apply t_ret | apply t_skip | apply t_exit | apply l_nil | apply x_then | apply x_pass_exit | apply x_pass_ret | apply x_block_ret | apply x_block_normal | apply x_block_here | apply x_block_out rfl) | refine lAv rfl ?_ | refine l_no rfl ?_ | refine tT rfl rfl ?_ | refine tF rfl rfl ?_ | refine lT rfl rfl ?_ | refine lF rfl rfl ?_)
              refine x_round (i + 1) ⟨rfl, rfl, rfl, rfl, trivial⟩ ⟨hi2, fun q hq => ?_⟩ (fun w' hw' => hw'.sub (.cons _ (.refl _))) (by omega)
              rw [hup] at hq
              rcases List.mem_append.1 hq with hq | hq
              · exact hall q hq
              · rw [List.mem_singleton.1 hq]; exact hp
            · have hm : mayC ⟨kind, data, ks⟩ = false := no_may (by
                rw [hMay]
                rintro ⟨-, -, ⟨h, -⟩ | ⟨-, h, -⟩ | ⟨h, -⟩⟩
                · exact k1 h
                · exact hp (h k hin)
                · omega)
              (repeat first | with_reducible (first | apply t_seq | apply t_region | apply t_block | apply t_ret | apply t_skip | apply t_exit | apply l_nil | apply x_then | apply x_pass_exit | apply x_pass_ret | apply x_block_ret | apply x_block_normal | apply x_block_here | apply x_block_out rfl) | refine lAv rfl ?_ | refine l_no rfl ?_ | refine tT rfl rfl ?_ | refine tF rfl rfl ?_ | refine lT rfl rfl ?_ | refine lF rfl rfl ?_)
              rw [hm]
              exact x_pu rfl rfl rfl
          · obtain rfl : i = ks.length := by omega
            rw [List.take_length] at hall
            by_cases h0 : ks.length = 0
            · have h0' := List.eq_nil_of_length_eq_zero h0
              have hm : mayC ⟨kind, data, ks⟩ = false := no_may (by
                rw [hMay]
                rintro ⟨-, -, ⟨h, -⟩ | ⟨-, -, h, -⟩ | ⟨h, -⟩⟩
                · exact k1 h
                · exact h h0'
                · omega)
              (repeat first | with_reducible (first | apply t_seq | apply t_region | apply t_block | apply t_ret | apply t_skip | apply t_exit | apply l_nil | apply x_then | apply x_pass_exit | apply x_pass_ret | apply x_block_ret | apply x_block_normal | apply x_block_here | apply x_block_out rfl) | refine lAv rfl ?_ | refine l_no rfl ?_ | refine tT rfl rfl ?_ | refine tF rfl rfl ?_ | refine lT rfl rfl ?_ | refine lF rfl rfl ?_)
              rw [hm]
              exact x_pu rfl rfl rfl
            · by_cases hd : data = []
              · have hd' := hdn.2 hd
                have hm : mayC ⟨kind, data, ks⟩ = decide (sizeF ⟨kind, data, ks⟩ < 4294967296) := is_may (by
                  rw [hMay]
                  constructor
                  · rintro ⟨-, -, ⟨h, -⟩ | ⟨-, -, -, -, h⟩ | ⟨h, -⟩⟩
                    · exact absurd h k1
                    · exact h
                    · omega
                  · exact fun h => ⟨hH, h6, .inr (.inl ⟨k2, hall, fun e => h0 (by rw [e]; rfl), hd, h⟩)⟩)
                (repeat first | with_reducible (first | apply t_seq | apply t_region | apply t_block | apply t_ret | apply t_skip | apply t_exit | apply l_nil | apply x_then | apply x_pass_exit | apply x_pass_ret | apply x_block_ret | apply x_block_normal | apply x_block_here | apply x_block_out rfl) | refine lAv rfl ?_ | refine l_no rfl ?_ | refine tT rfl rfl ?_ | refine tF rfl rfl ?_ | refine lT rfl rfl ?_ | refine lF rfl rfl ?_)
                refine l_opg rfl (o_pure rfl (by kernel_rfl) rfl (fun w1 hw1 => size_calls kind data ks a c hk hz hdz w1 (hr.keep hw1))) fun _ => ?_
                (repeat first | with_reducible (first | apply t_seq | apply t_region | apply t_block | apply t_ret | apply t_skip | apply t_exit | apply l_nil | apply x_then | apply x_pass_exit | apply x_pass_ret | apply x_block_ret | apply x_block_normal | apply x_block_here | apply x_block_out rfl) | refine lAv rfl ?_ | refine l_no rfl ?_ | refine tT rfl rfl ?_ | refine tF rfl rfl ?_ | refine lT rfl rfl ?_ | refine lF rfl rfl ?_)
                rw [hm]
                refine x_pu rfl rfl (congrArg Value.bool ?_)
                exact decide_eq_decide.2 (by omega)
              · have hd' : ¬ (⟨data.toArray⟩ : ByteArray) = ⟨#[]⟩ := fun e => hd (hdn.1 e)
                have hm : mayC ⟨kind, data, ks⟩ = false := no_may (by
                  rw [hMay]
                  rintro ⟨-, -, ⟨h, -⟩ | ⟨-, -, -, h, -⟩ | ⟨h, -⟩⟩
                  · exact k1 h
                  · exact hd h
                  · omega)
                (repeat first | with_reducible (first | apply t_seq | apply t_region | apply t_block | apply t_ret | apply t_skip | apply t_exit | apply l_nil | apply x_then | apply x_pass_exit | apply x_pass_ret | apply x_block_ret | apply x_block_normal | apply x_block_here | apply x_block_out rfl) | refine lAv rfl ?_ | refine l_no rfl ?_ | refine tT rfl rfl ?_ | refine tF rfl rfl ?_ | refine lT rfl rfl ?_ | refine lF rfl rfl ?_)
                rw [hm]
                exact x_pu rfl rfl rfl
        · by_cases k3 : kind = 3
          · (repeat first | with_reducible (first | apply t_seq | apply t_region | apply t_block | apply t_ret | apply t_skip | apply t_exit | apply l_nil | apply x_then | apply x_pass_exit | apply x_pass_ret | apply x_block_ret | apply x_block_normal | apply x_block_here | apply x_block_out rfl) | refine lAv rfl ?_ | refine l_no rfl ?_ | refine tT rfl rfl ?_ | refine tF rfl rfl ?_ | refine lT rfl rfl ?_ | refine lF rfl rfl ?_)
            refine t_for (α := Nat) (fun i => [(1, .pointer (some ⟨b1, 0, none⟩)), (60, .slice a ks.length c), (61, .int .i64 ks.length), (62, .int .i64 i)]) (fun i => i ≤ ks.length ∧ ∀ j k, j < i → ks[j]? = some k → nameOk ks j k)
              (fun _ => [pt b1 (.cells #[.int .u8 kind, .string ⟨data.toArray⟩, .slice a ks.length c] 82 (0, 0))]) (fun i => ks.length - i) 0 ⟨rfl, rfl, rfl, rfl, trivial⟩ ⟨Nat.zero_le _, fun _ _ h => nomatch h⟩ (fun w' hw' => hw') fun i ⟨hi, hall⟩ => ?_
            by_cases hi2 : i < ks.length
            · obtain ⟨b, off, rfl, hr'⟩ := hat (by rintro rfl; simp at hi2)
              have hks : ks[i]? = some ks[i] := List.getElem?_eq_getElem hi2
              have hrow : ∀ (m : List Eng.Item) w', Hp w none' m w' → w'.rangeAt b (off + i * 36) (kidV ks[i]) := fun m w' hw' => hlenI i hi2 hr' hw'
              generalize ks[i] = k at hrow hks
              have hkl := ba_len k.name
              have hkn := @ba_nil k.name
              (repeat first | with_reducible (first | apply t_seq | apply t_region | apply t_block | apply t_ret | apply t_skip | apply t_exit | apply l_nil | apply x_then | apply x_pass_exit | apply x_pass_ret | apply x_block_ret | apply x_block_normal | apply x_block_here | apply x_block_out rfl) | refine lAv rfl ?_ | refine l_no rfl ?_ | refine tT rfl rfl ?_ | refine tF rfl rfl ?_ | refine lT rfl rfl ?_ | refine lF rfl rfl ?_)
              refine l_w rfl (v_loadc (xs := kidV k) rfl (by rw [kidV_len]; rfl) (fun w' hw' => hrow _ w' hw')) ?_
              refine l_alloca rfl rfl fun b6 hb6 => ?_
              (repeat first | with_reducible (first | apply t_seq | apply t_region | apply t_block | apply t_ret | apply t_skip | apply t_exit | apply l_nil | apply x_then | apply x_pass_exit | apply x_pass_ret | apply x_block_ret | apply x_block_normal | apply x_block_here | apply x_block_out rfl) | refine lAv rfl ?_ | refine l_no rfl ?_ | refine tT rfl rfl ?_ | refine tF rfl rfl ?_ | refine lT rfl rfl ?_ | refine lF rfl rfl ?_)
              refine l_op rfl (o_storea (cs' := (kidV k).toArray) rfl rfl rfl (by rw [List.size_toArray, kidV_len]; rfl) (by rw [List.toList_toArray]; exact kid_one k) (by rw [List.size_toArray, kidV_len]; rfl)) fun _ => ?_
              (repeat first | with_reducible (first | apply t_seq | apply t_region | apply t_block | apply t_ret | apply t_skip | apply t_exit | apply l_nil | apply x_then | apply x_pass_exit | apply x_pass_ret | apply x_block_ret | apply x_block_normal | apply x_block_here | apply x_block_out rfl) | refine lAv rfl ?_ | refine l_no rfl ?_ | refine tT rfl rfl ?_ | refine tF rfl rfl ?_ | refine lT rfl rfl ?_ | refine lF rfl rfl ?_)
              have hno : ¬ nameOk ks i k → mayC ⟨kind, data, ks⟩ = false := fun hn => no_may (by
                rw [hMay]
                rintro ⟨-, -, ⟨h, -⟩ | ⟨h, -⟩ | ⟨-, h, -⟩⟩
                · exact k1 h
                · exact k2 h
                · exact hn (h i k hks))
              have hyes : nameOk ks i k → ∀ j q, j < i + 1 → ks[j]? = some q → nameOk ks j q := fun hn j q hj hq => by
                by_cases e : j = i
                · subst e
                  rw [hks] at hq
                  rw [← Option.some.inj hq]; exact hn
                · exact hall j q (by omega) hq
              by_cases hn0 : k.name = []
              · have hn0' := hkn.2 hn0
                have hm := hno fun hn => hn.1 hn0
                refine t_drawp (by kernel_rfl) ?_
                (repeat first | refine dAv [] rfl rfl rfl ?_ | refine dno [] rfl rfl rfl ?_ | refine dT [] rfl rfl rfl rfl ?_ | refine dF [] rfl rfl rfl rfl ?_)
                refine d_end (by kernel_rfl) ?_
                (repeat first | with_reducible (first | apply t_seq | apply t_region | apply t_block | apply t_ret | apply t_skip | apply t_exit | apply l_nil | apply x_then | apply x_pass_exit | apply x_pass_ret | apply x_block_ret | apply x_block_normal | apply x_block_here | apply x_block_out rfl) | refine lAv rfl ?_ | refine l_no rfl ?_ | refine tT rfl rfl ?_ | refine tF rfl rfl ?_ | refine lT rfl rfl ?_ | refine lF rfl rfl ?_)
                rw [hm]
                exact x_pu rfl rfl rfl
              · have hn0' : ¬ (⟨k.name.toArray⟩ : ByteArray) = ⟨#[]⟩ := fun e => hn0 (hkn.1 e)
                by_cases hn16 : k.name.length ≤ 16
                · by_cases hi0 : i = 0
                  · have hok : nameOk ks i k := ⟨hn0, hn16, fun j p hj => by omega⟩
                    refine t_drawp (by kernel_rfl) ?_
                    (repeat first | refine dAv [] rfl rfl rfl ?_ | refine dno [] rfl rfl rfl ?_ | refine dT [] rfl rfl rfl rfl ?_ | refine dF [] rfl rfl rfl rfl ?_)
                    refine d_end (by kernel_rfl) ?_
                    (repeat first | with_reducible (first | apply t_seq | apply t_region | apply t_block | apply t_ret | apply t_skip | apply t_exit | apply l_nil | apply x_then | apply x_pass_exit | apply x_pass_ret | apply x_block_ret | apply x_block_normal | apply x_block_here | apply x_block_out rfl) | refine lAv rfl ?_ | refine l_no rfl ?_ | refine tT rfl rfl ?_ | refine tF rfl rfl ?_ | refine lT rfl rfl ?_ | refine lF rfl rfl ?_)
                    exact x_round (i + 1) ⟨rfl, rfl, rfl, rfl, trivial⟩ ⟨hi2, hyes hok⟩ (fun w' hw' => hw'.sub (.cons _ (.refl _))) (by omega)
                  · have hi1 : i - 1 < ks.length := by omega
                    have hps : ks[i - 1]? = some ks[i - 1] := List.getElem?_eq_getElem hi1
                    have hcell : ∀ (m : List Eng.Item) w', Hp w none' m w' → w'.cell? ⟨b, off + (i - 1) * 36 + 0, none⟩ = some (.string ⟨ks[i - 1].name.toArray⟩) := fun m w' hw' => hlenI (i - 1) hi1 hr' hw' 0 _ rfl
                    generalize ks[i - 1] = p at hps hcell
                    have hcell' : ∀ (m : List Eng.Item) w', Hp w none' m w' → w'.cell? ⟨b, off + (i - 1) * 36, none⟩ = some (.string ⟨p.name.toArray⟩) := hcell
                    by_cases hb : Op.bytesLess p.name k.name = true
                    · have hbl : Op.bytesLess (⟨p.name.toArray⟩ : ByteArray).toList (⟨k.name.toArray⟩ : ByteArray).toList = true := by rw [ba_list, ba_list]; exact hb
                      have hok : nameOk ks i k := ⟨hn0, hn16, fun j q hj hq => by
                        rw [show j = i - 1 by omega, hps] at hq
                        rw [← Option.some.inj hq]; exact hb⟩
                      refine t_drawp (by kernel_rfl) ?_
                      (repeat first | refine dAv [] rfl rfl rfl ?_ | refine dno [] rfl rfl rfl ?_ | refine dT [] rfl rfl rfl rfl ?_ | refine dF [] rfl rfl rfl rfl ?_)
                      refine d_v [] rfl rfl (by kernel_rfl) (fun _ h => h) rfl rfl (v_load rfl rfl (fun w' hw' => hcell' _ w' hw')) ?_
                      (repeat first | refine dAv [] rfl rfl rfl ?_ | refine dno [] rfl rfl rfl ?_ | refine dT [] rfl rfl rfl rfl ?_ | refine dF [] rfl rfl rfl rfl ?_)
                      refine d_end (by kernel_rfl) ?_
                      (repeat first | with_reducible (first | apply t_seq | apply t_region | apply t_block | apply t_ret | apply t_skip | apply t_exit | apply l_nil | apply x_then | apply x_pass_exit | apply x_pass_ret | apply x_block_ret | apply x_block_normal | apply x_block_here | apply x_block_out rfl) | refine lAv rfl ?_ | refine l_no rfl ?_ | refine tT rfl rfl ?_ | refine tF rfl rfl ?_ | refine lT rfl rfl ?_ | refine lF rfl rfl ?_)
                      exact x_round (i + 1) ⟨rfl, rfl, rfl, rfl, trivial⟩ ⟨hi2, hyes hok⟩ (fun w' hw' => hw'.sub (.cons _ (.refl _))) (by omega)
                    · have hbl : ¬ Op.bytesLess (⟨p.name.toArray⟩ : ByteArray).toList (⟨k.name.toArray⟩ : ByteArray).toList = true := by rw [ba_list, ba_list]; exact hb
                      have hm := hno fun hn => hb (hn.2.2 (i - 1) p (by omega) hps)
                      refine t_drawp (by kernel_rfl) ?_
                      (repeat first | refine dAv [] rfl rfl rfl ?_ | refine dno [] rfl rfl rfl ?_ | refine dT [] rfl rfl rfl rfl ?_ | refine dF [] rfl rfl rfl rfl ?_)
                      refine d_v [] rfl rfl (by kernel_rfl) (fun _ h => h) rfl rfl (v_load rfl rfl (fun w' hw' => hcell' _ w' hw')) ?_
                      (repeat first | refine dAv [] rfl rfl rfl ?_ | refine dno [] rfl rfl rfl ?_ | refine dT [] rfl rfl rfl rfl ?_ | refine dF [] rfl rfl rfl rfl ?_)
                      refine d_end (by kernel_rfl) ?_
                      (repeat first | with_reducible (first | apply t_seq | apply t_region | apply t_block | apply t_ret | apply t_skip | apply t_exit | apply l_nil | apply x_then | apply x_pass_exit | apply x_pass_ret | apply x_block_ret | apply x_block_normal | apply x_block_here | apply x_block_out rfl) | refine lAv rfl ?_ | refine l_no rfl ?_ | refine tT rfl rfl ?_ | refine tF rfl rfl ?_ | refine lT rfl rfl ?_ | refine lF rfl rfl ?_)
                      rw [hm]
                      exact x_pu rfl rfl rfl
                · have hm := hno fun hn => hn16 hn.2.1
                  refine t_drawp (by kernel_rfl) ?_
                  (repeat first | refine dAv [] rfl rfl rfl ?_ | refine dno [] rfl rfl rfl ?_ | refine dT [] rfl rfl rfl rfl ?_ | refine dF [] rfl rfl rfl rfl ?_)
                  refine d_end (by kernel_rfl) ?_
                  (repeat first | with_reducible (first | apply t_seq | apply t_region | apply t_block | apply t_ret | apply t_skip | apply t_exit | apply l_nil | apply x_then | apply x_pass_exit | apply x_pass_ret | apply x_block_ret | apply x_block_normal | apply x_block_here | apply x_block_out rfl) | refine lAv rfl ?_ | refine l_no rfl ?_ | refine tT rfl rfl ?_ | refine tF rfl rfl ?_ | refine lT rfl rfl ?_ | refine lF rfl rfl ?_)
                  rw [hm]
                  exact x_pu rfl rfl rfl
            · obtain rfl : i = ks.length := by omega
              have hall' : ∀ j k, ks[j]? = some k → nameOk ks j k := fun j k hj => hall j k (List.getElem?_eq_some_iff.1 hj).1 hj
              have hm : mayC ⟨kind, data, ks⟩ = seq ⟨data.toArray⟩ ⟨#[]⟩ := by
                rw [← seq_eq]
                exact is_may (by
                  rw [hMay, hdn]
                  constructor
                  · rintro ⟨-, -, ⟨h, -⟩ | ⟨h, -⟩ | ⟨-, -, h⟩⟩
                    · exact absurd h k1
                    · exact absurd h k2
                    · exact h
                  · exact fun h => ⟨hH, h6, .inr (.inr ⟨k3, hall', h⟩)⟩)
              (repeat first | with_reducible (first | apply t_seq | apply t_region | apply t_block | apply t_ret | apply t_skip | apply t_exit | apply l_nil | apply x_then | apply x_pass_exit | apply x_pass_ret | apply x_block_ret | apply x_block_normal | apply x_block_here | apply x_block_out rfl) | refine lAv rfl ?_ | refine l_no rfl ?_ | refine tT rfl rfl ?_ | refine tF rfl rfl ?_ | refine lT rfl rfl ?_ | refine lF rfl rfl ?_)
              rw [hm]
              exact x_pu rfl rfl rfl
          · have hm : mayC ⟨kind, data, ks⟩ = false := no_may (by
              rw [hMay]
              rintro ⟨-, -, ⟨h, -⟩ | ⟨h, -⟩ | ⟨h, -⟩⟩ <;> omega)
            (repeat first | with_reducible (first | apply t_seq | apply t_region | apply t_block | apply t_ret | apply t_skip | apply t_exit | apply l_nil | apply x_then | apply x_pass_exit | apply x_pass_ret | apply x_block_ret | apply x_block_normal | apply x_block_here | apply x_block_out rfl) | refine lAv rfl ?_ | refine l_no rfl ?_ | refine tT rfl rfl ?_ | refine tF rfl rfl ?_ | refine lT rfl rfl ?_ | refine lF rfl rfl ?_)
            rw [hm]
            exact x_pu rfl rfl rfl
    · have hm : mayC ⟨kind, data, ks⟩ = false := no_may fun h => h6 (hMay.1 h).2.1
      (repeat first | with_reducible (first | apply t_seq | apply t_region | apply t_block | apply t_ret | apply t_skip | apply t_exit | apply l_nil | apply x_then | apply x_pass_exit | apply x_pass_ret | apply x_block_ret | apply x_block_normal | apply x_block_here | apply x_block_out rfl) | refine lAv rfl ?_ | refine l_no rfl ?_ | refine tT rfl rfl ?_ | refine tF rfl rfl ?_ | refine lT rfl rfl ?_ | refine lF rfl rfl ?_)
      rw [hm]
      exact x_pu rfl rfl rfl
  · have hm : mayC ⟨kind, data, ks⟩ = false := no_may fun h => hH (hMay.1 h).1
    (repeat first | with_reducible (first | apply t_seq | apply t_region | apply t_block | apply t_ret | apply t_skip | apply t_exit | apply l_nil | apply x_then | apply x_pass_exit | apply x_pass_ret | apply x_block_ret | apply x_block_normal | apply x_block_here | apply x_block_out rfl) | refine lAv rfl ?_ | refine l_no rfl ?_ | refine tT rfl rfl ?_ | refine tF rfl rfl ?_ | refine lT rfl rfl ?_ | refine lF rfl rfl ?_)
    rw [hm]
    exact x_pu rfl rfl rfl
end Go.Proofs.YtdkonngkbbgcgaaGreatDoor
