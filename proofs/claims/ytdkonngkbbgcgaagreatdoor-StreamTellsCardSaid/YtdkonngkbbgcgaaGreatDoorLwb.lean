/- law 33: a stream that is known. -/
import Derived.Test.YtdkonngkbbgcgaaGreatDoorLwa
import Derived.Test.YtdkonngkbbgcgaaGreatDoorSto
import Derived.Test.YtdkonngkbbgcgaaGreatDoorStq2
namespace Go.Proofs.YtdkonngkbbgcgaaGreatDoor
open Go.RowKit Go.Eng
set_option maxRecDepth 100000
set_option maxHeartbeats 40000000
theorem takeF_root (bs : Bys) : ((takeF bs).1.getD noS).root.length = 32 := by
  unfold takeF
  split
  · rfl
  · split
    · rfl
    · split
      · rename_i h1 h2 h3
        show (parF (bs.take (bs.length - 4))).1.root.length = 32
        unfold parF
        simp only [List.length_take, List.length_drop]
        omega
      · rfl
theorem known_x : (takeF ((putF knownS).take 46 ++ [120])).2 = 12 ∨ (putF knownS)[46]? = some 120 := by
  have hl := known_len
  have e : (putF knownS).take 46 ++ [120] = (putF knownS).set 46 120 := by
    rw [List.set_eq_take_append_cons_drop, if_pos (by omega), List.drop_of_length_le (by omega)]
  rw [e]
  by_cases h : (120 : UInt8) = (putF knownS)[46]'(by rw [known_len]; decide)
  · right
    rw [List.getElem?_eq_getElem (by omega), ← h]
  · exact .inl (known_other _ h)
theorem own_ChL {w : World} {e : TypeId} {n : Nat} {o : Option (Nat × Nat)} {l : List Bys} (h : (own e 1 o n (strs (bas l))).prop w) (hm : l.length ≤ 100000) (hl : ∀ x ∈ l, x.length ≤ 65535) : ChL w (slA o) (slC o) l := ⟨(own_StrL h).2, hm, hl⟩
theorem over_strm {r : Bys} (hr : r.length = 32) (v : Value) {z : List Value} (hz : z.length = 33) : over (over z 0 (bytesV r)) 32 [v] = bytesV r ++ [v] := by
  have hbl : (bytesV r).length = 32 := by rw [bytesV_length, hr]
  have h1 : over z 0 (bytesV r) = bytesV r ++ z.drop 32 := by unfold over; rw [hbl]; simp
  rw [h1]
  unfold over
  rw [List.take_append_of_le_length (by omega), List.take_of_length_le (by omega), List.drop_of_length_le (by simp [hbl, hz])]
  simp
theorem wakes33_calls (w : World) (ht : Tabs w) : Pu Tryz.prog 6 #[] w (.bool true) := by
  refine pu_of [] Tryz.func6 rfl rfl ?_
  have hchk := known_chk
  have hmay := known_mayF
  have hlen := known_len
  have hmag := known_magic
  have hback := known_back
  have hkx := known_x
  have hlit : (⟨#[1, 97, 98]⟩ : ByteArray) = ⟨knownB.toArray⟩ := rfl
  have hyl : knownB.length = 3 := rfl
  unfold knownS at *
  generalize knownB = y at *
  have hxl := ba_len y
  generalize hp : putF ⟨shaF y, [y]⟩ = p at *
  have hpl := ba_len p
  simp only [argSlots]
  (repeat first | with_reducible (first | apply t_seq | apply t_region | apply t_block | apply t_ret | apply t_skip | apply t_exit | apply l_nil | apply x_then | apply x_pass_exit | apply x_pass_ret | apply x_block_ret | apply x_block_normal | apply x_block_here | apply x_block_out rfl) | refine lAv rfl ?_ | refine l_no rfl ?_ | refine tT rfl rfl ?_ | refine tF rfl rfl ?_ | refine lT rfl rfl ?_ | refine lF rfl rfl ?_)
  refine l_say 11 _ (.string ⟨y.toArray⟩) rfl (congrArg Value.string hlit) ?_
  refine l_say 1 _ (.string ⟨y.toArray⟩) rfl (congrArg Value.string hlit) ?_
  refine l_op rfl (o_strb rfl rfl rfl rfl) fun ⟨p1, hp1, hp2⟩ => ?_
  refine l_opg rfl (o_pure rfl (by kernel_rfl) rfl (fun w1 hw1 => sha_calls (some ⟨p1.1, 0, none⟩) (⟨y.toArray⟩ : ByteArray).size p1.2 y hxl.symm hp2 (by omega) w1 (.inr ⟨p1.1, 0, rfl, strRow_at (hw1.item _ (.head _)).1⟩) (ht.keep hw1))) fun _ => ?_
  (repeat first | with_reducible (first | apply t_seq | apply t_region | apply t_block | apply t_ret | apply t_skip | apply t_exit | apply l_nil | apply x_then | apply x_pass_exit | apply x_pass_ret | apply x_block_ret | apply x_block_normal | apply x_block_here | apply x_block_out rfl) | refine lAv rfl ?_ | refine l_no rfl ?_ | refine tT rfl rfl ?_ | refine tF rfl rfl ?_ | refine lT rfl rfl ?_ | refine lF rfl rfl ?_)
  refine l_op rfl (o_buildslice rfl rfl rfl rfl rfl rfl) fun ⟨bq, hbq⟩ => ?_
  refine l_w rfl (v_builds (L := [(0, 32, hashV (shaF y)), (32, 1, .slice (some ⟨bq, 0, none⟩) 1 1)]) rfl rfl rfl rfl (by simp [okPartsB, Value.cells, hashV, shaF_len])) ?_
  refine l_say 16 _ (.agg (strmA (shaF y) (some ⟨bq, 0, none⟩) 1 1)) rfl ?_ ?_
  · show Value.agg ((over (over _ 0 (bytesV (shaF y))) 32 [Value.slice (some ⟨bq, 0, none⟩) 1 1]).toArray) = _
    rw [over_strm (shaF_len y) _ rfl]
  refine l_alloca rfl rfl fun b2 hb2 => ?_
  refine l_op rfl (o_storea (cs' := strmA (shaF y) (some ⟨bq, 0, none⟩) 1 1) rfl rfl rfl (by rw [strm_size _ (shaF_len y)]; rfl) (strm_one _ _ _ _) (by rw [strm_size _ (shaF_len y)]; rfl)) fun _ => ?_
  (repeat first | with_reducible (first | apply t_seq | apply t_region | apply t_block | apply t_ret | apply t_skip | apply t_exit | apply l_nil | apply x_then | apply x_pass_exit | apply x_pass_ret | apply x_block_ret | apply x_block_normal | apply x_block_here | apply x_block_out rfl) | refine lAv rfl ?_ | refine l_no rfl ?_ | refine tT rfl rfl ?_ | refine tF rfl rfl ?_ | refine lT rfl rfl ?_ | refine lF rfl rfl ?_)
  refine l_opg rfl (o_pure rfl (by kernel_rfl) rfl (fun w1 hw1 => sput_calls (shaF y) [y] (some ⟨bq, 0, none⟩) 1 (shaF_len y) w1 (own_ChL (o := some (bq, 1)) (hw1.item _ (.tail _ (.head _))).1 (by simp) (by simp; omega)) (ht.keep hw1))) fun _ => ?_
  simp only [hmay, if_true, hp]
  (repeat first | with_reducible (first | apply t_seq | apply t_region | apply t_block | apply t_ret | apply t_skip | apply t_exit | apply l_nil | apply x_then | apply x_pass_exit | apply x_pass_ret | apply x_block_ret | apply x_block_normal | apply x_block_here | apply x_block_out rfl) | refine lAv rfl ?_ | refine l_no rfl ?_ | refine tT rfl rfl ?_ | refine tF rfl rfl ?_ | refine lT rfl rfl ?_ | refine lF rfl rfl ?_)
  refine l_ctg rfl rfl (by kernel_rfl) rfl (fun w1 hw1 => stake_calls p (by omega) w1 (ht.keep hw1)) fun x hx => ?_
  obtain ⟨o5, ho5⟩ : ∃ o, x = o := ⟨_, rfl⟩
  rw [ho5, hback]
  simp only [Option.getD_some, List.length_singleton]
  refine l_fact (fun w hw => (own_val (hw.item (own 9 1 o5 1 (strs (bas [y]))) (by simp)).1)) fun ⟨hsl5, hcap5⟩ => ?_
  have hso5 : strmO (shaF y) o5 1 = strmA (shaF y) (slA o5) 1 (slC o5) := by unfold strmO strmA; rw [hsl5]
  rw [hso5]
  (repeat first | with_reducible (first | apply t_seq | apply t_region | apply t_block | apply t_ret | apply t_skip | apply t_exit | apply l_nil | apply x_then | apply x_pass_exit | apply x_pass_ret | apply x_block_ret | apply x_block_normal | apply x_block_here | apply x_block_out rfl) | refine lAv rfl ?_ | refine l_no rfl ?_ | refine tT rfl rfl ?_ | refine tF rfl rfl ?_ | refine lT rfl rfl ?_ | refine lF rfl rfl ?_)
  refine l_alloca rfl rfl fun b5 hb5 => ?_
  refine l_op rfl (o_storea (cs' := strmA (shaF y) (slA o5) 1 (slC o5)) rfl rfl rfl (by rw [strm_size _ (shaF_len y)]; rfl) (strm_one _ _ _ _) (by rw [strm_size _ (shaF_len y)]; rfl)) fun _ => ?_
  (repeat first | with_reducible (first | apply t_seq | apply t_region | apply t_block | apply t_ret | apply t_skip | apply t_exit | apply l_nil | apply x_then | apply x_pass_exit | apply x_pass_ret | apply x_block_ret | apply x_block_normal | apply x_block_here | apply x_block_out rfl) | refine lAv rfl ?_ | refine l_no rfl ?_ | refine tT rfl rfl ?_ | refine tF rfl rfl ?_ | refine lT rfl rfl ?_ | refine lF rfl rfl ?_)
  refine l_w rfl (v_max rfl rfl) ?_
  refine l_say 32 _ (.int .i64 ((46 : Nat) : Int)) rfl (congrArg (Value.int .i64) (by omega)) ?_
  (repeat first | with_reducible (first | apply t_seq | apply t_region | apply t_block | apply t_ret | apply t_skip | apply t_exit | apply l_nil | apply x_then | apply x_pass_exit | apply x_pass_ret | apply x_block_ret | apply x_block_normal | apply x_block_here | apply x_block_out rfl) | refine lAv rfl ?_ | refine l_no rfl ?_ | refine tT rfl rfl ?_ | refine tF rfl rfl ?_ | refine lT rfl rfl ?_ | refine lF rfl rfl ?_)
  refine l_say 33 _ (.string ⟨(p.take 46).toArray⟩) rfl (congrArg Value.string (ext_take p 46 (by omega))) ?_
  have h46 : (⟨(p.take 46).toArray⟩ : ByteArray).size = 46 := by rw [ba_len, List.length_take]; omega
  refine l_w rfl (v_adds rfl rfl (by rw [h46]; decide)) ?_
  refine l_say 34 _ (.string ⟨(p.take 46 ++ [120]).toArray⟩) rfl (congrArg Value.string (ba_ext (by simp))) ?_
  have hroot := takeF_root (p.take 46 ++ [120])
  refine l_ctg rfl rfl (by kernel_rfl) rfl (fun w1 hw1 => stake_calls (p.take 46 ++ [120]) (by rw [List.length_append, List.length_take, List.length_singleton]; omega) w1 (ht.keep hw1)) fun x hx => ?_
  generalize hq : takeF (p.take 46 ++ [120]) = q at hroot hkx
  obtain ⟨o7, ho7⟩ : ∃ o, x = o := ⟨_, rfl⟩
  rw [ho7]
  (repeat first | with_reducible (first | apply t_seq | apply t_region | apply t_block | apply t_ret | apply t_skip | apply t_exit | apply l_nil | apply x_then | apply x_pass_exit | apply x_pass_ret | apply x_block_ret | apply x_block_normal | apply x_block_here | apply x_block_out rfl) | refine lAv rfl ?_ | refine l_no rfl ?_ | refine tT rfl rfl ?_ | refine tF rfl rfl ?_ | refine lT rfl rfl ?_ | refine lF rfl rfl ?_)
  refine l_alloca rfl rfl fun b7 hb7 => ?_
  refine l_op rfl (o_storea (cs' := strmO (q.1.getD noS).root o7 (q.1.getD noS).chunks.length) rfl rfl rfl (by rw [strmO_size _ hroot]; rfl) (strmO_one _ _ _) (by rw [strmO_size _ hroot]; rfl)) fun _ => ?_
  (repeat first | with_reducible (first | apply t_seq | apply t_region | apply t_block | apply t_ret | apply t_skip | apply t_exit | apply l_nil | apply x_then | apply x_pass_exit | apply x_pass_ret | apply x_block_ret | apply x_block_normal | apply x_block_here | apply x_block_out rfl) | refine lAv rfl ?_ | refine l_no rfl ?_ | refine tT rfl rfl ?_ | refine tF rfl rfl ?_ | refine lT rfl rfl ?_ | refine lF rfl rfl ?_)
  refine l_ctg rfl rfl (by kernel_rfl) rfl (fun w1 hw1 => Pieces_calls y _ hchk rfl (some ⟨bq, 0, none⟩) 1 w1 (own_ChL (o := some (bq, 1)) (hw1.item _ (.tail _ (.tail _ (.tail _ (.tail _ (.tail _ (.head _))))))).1 (by simp) (by simp; omega)) (ht.keep hw1)) fun x hx => ?_
  obtain ⟨o9, ho9⟩ : ∃ o, x = o := ⟨_, rfl⟩
  rw [ho9]
  match o9 with
  | none => exact l_fact (fun w hw => show False by have h1 : 1 = 0 := (hw.item _ (.head _)).1.2; omega) fun h => h.elim
  | some (b9, c9) =>
  refine l_say 40 _ (.tuple #[.slice (some ⟨b9, 0, none⟩) 1 c9, .int .i64 0]) rfl rfl ?_
  (repeat first | with_reducible (first | apply t_seq | apply t_region | apply t_block | apply t_ret | apply t_skip | apply t_exit | apply l_nil | apply x_then | apply x_pass_exit | apply x_pass_ret | apply x_block_ret | apply x_block_normal | apply x_block_here | apply x_block_out rfl) | refine lAv rfl ?_ | refine l_no rfl ?_ | refine tT rfl rfl ?_ | refine tF rfl rfl ?_ | refine lT rfl rfl ?_ | refine lF rfl rfl ?_)
  refine l_say 55 _ (.bool true) rfl (congrArg Value.bool (by rw [ext_take p 4 (by omega), hmag]; exact (seq_ba magicL magicL).trans (decide_eq_true rfl))) ?_
  (repeat first | with_reducible (first | apply t_seq | apply t_region | apply t_block | apply t_ret | apply t_skip | apply t_exit | apply l_nil | apply x_then | apply x_pass_exit | apply x_pass_ret | apply x_block_ret | apply x_block_normal | apply x_block_here | apply x_block_out rfl) | refine lAv rfl ?_ | refine l_no rfl ?_ | refine tT rfl rfl ?_ | refine tF rfl rfl ?_ | refine lT rfl rfl ?_ | refine lF rfl rfl ?_)
  refine l_opg rfl (o_pure rfl (by kernel_rfl) rfl (fun w1 hw1 => same_calls (shaF y) (shaF y) [y] [y] (some ⟨bq, 0, none⟩) (slA o5) 1 (slC o5) (shaF_len y) (shaF_len y) w1 (own_ChL (o := some (bq, 1)) (hw1.item _ (.tail _ (.tail _ (.tail _ (.tail _ (.tail _ (.tail _ (.head _)))))))).1 (by simp) (by simp; omega)) (own_ChL (hw1.item (own 9 1 o5 1 (strs (bas [y]))) (by simp)).1 (by simp) (by simp; omega)))) fun _ => ?_
  rw [decide_eq_true (⟨rfl, rfl⟩ : shaF y = shaF y ∧ [y] = [y])]
  (repeat first | with_reducible (first | apply t_seq | apply t_region | apply t_block | apply t_ret | apply t_skip | apply t_exit | apply l_nil | apply x_then | apply x_pass_exit | apply x_pass_ret | apply x_block_ret | apply x_block_normal | apply x_block_here | apply x_block_out rfl) | refine lAv rfl ?_ | refine l_no rfl ?_ | refine tT rfl rfl ?_ | refine tF rfl rfl ?_ | refine lT rfl rfl ?_ | refine lF rfl rfl ?_)
  by_cases h12 : q.2 = 12
  · rw [h12]
    (repeat first | with_reducible (first | apply t_seq | apply t_region | apply t_block | apply t_ret | apply t_skip | apply t_exit | apply l_nil | apply x_then | apply x_pass_exit | apply x_pass_ret | apply x_block_ret | apply x_block_normal | apply x_block_here | apply x_block_out rfl) | refine lAv rfl ?_ | refine l_no rfl ?_ | refine tT rfl rfl ?_ | refine tF rfl rfl ?_ | refine lT rfl rfl ?_ | refine lF rfl rfl ?_)
    refine l_w rfl (v_load rfl rfl (fun w' hw' => own_rd (hw'.item (own 9 1 (some (b9, c9)) 1 [.string ⟨y.toArray⟩]) (by simp)).1 0 _ rfl)) ?_
    (repeat first | with_reducible (first | apply t_seq | apply t_region | apply t_block | apply t_ret | apply t_skip | apply t_exit | apply l_nil | apply x_then | apply x_pass_exit | apply x_pass_ret | apply x_block_ret | apply x_block_normal | apply x_block_here | apply x_block_out rfl) | refine lAv rfl ?_ | refine l_no rfl ?_ | refine tT rfl rfl ?_ | refine tF rfl rfl ?_ | refine lT rfl rfl ?_ | refine lF rfl rfl ?_)
    exact x_pu rfl rfl (congrArg Value.bool ((seq_ba y y).trans (decide_eq_true rfl)))
  · have h120 := hkx.resolve_left h12
    have hq0 : ((q.2 : Int) == 12) = false := by rw [beq_eq_false_iff_ne]; omega
    rw [hq0]
    (repeat first | with_reducible (first | apply t_seq | apply t_region | apply t_block | apply t_ret | apply t_skip | apply t_exit | apply l_nil | apply x_then | apply x_pass_exit | apply x_pass_ret | apply x_block_ret | apply x_block_normal | apply x_block_here | apply x_block_out rfl) | refine lAv rfl ?_ | refine l_no rfl ?_ | refine tT rfl rfl ?_ | refine tF rfl rfl ?_ | refine lT rfl rfl ?_ | refine lF rfl rfl ?_)
    have hE : ∀ (i : Nat) (h : i < (⟨p.toArray⟩ : ByteArray).size), i = 46 → (⟨p.toArray⟩ : ByteArray)[i] = 120 := fun i h e => by
      subst e
      have h1 := h120
      rw [List.getElem?_eq_getElem (by omega)] at h1
      exact Option.some.inj h1
    refine l_say 76 _ (.bool true) rfl (congrArg Value.bool (by rw [hE _ _ (by omega)]; rfl)) ?_
    (repeat first | with_reducible (first | apply t_seq | apply t_region | apply t_block | apply t_ret | apply t_skip | apply t_exit | apply l_nil | apply x_then | apply x_pass_exit | apply x_pass_ret | apply x_block_ret | apply x_block_normal | apply x_block_here | apply x_block_out rfl) | refine lAv rfl ?_ | refine l_no rfl ?_ | refine tT rfl rfl ?_ | refine tF rfl rfl ?_ | refine lT rfl rfl ?_ | refine lF rfl rfl ?_)
    refine l_w rfl (v_load rfl rfl (fun w' hw' => own_rd (hw'.item (own 9 1 (some (b9, c9)) 1 [.string ⟨y.toArray⟩]) (by simp)).1 0 _ rfl)) ?_
    (repeat first | with_reducible (first | apply t_seq | apply t_region | apply t_block | apply t_ret | apply t_skip | apply t_exit | apply l_nil | apply x_then | apply x_pass_exit | apply x_pass_ret | apply x_block_ret | apply x_block_normal | apply x_block_here | apply x_block_out rfl) | refine lAv rfl ?_ | refine l_no rfl ?_ | refine tT rfl rfl ?_ | refine tF rfl rfl ?_ | refine lT rfl rfl ?_ | refine lF rfl rfl ?_)
    exact x_pu rfl rfl (congrArg Value.bool ((seq_ba y y).trans (decide_eq_true rfl)))
end Go.Proofs.YtdkonngkbbgcgaaGreatDoor
