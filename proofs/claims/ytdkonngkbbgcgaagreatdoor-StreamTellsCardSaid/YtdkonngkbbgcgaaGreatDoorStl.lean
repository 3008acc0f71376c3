/- package stream: the hashes of a stream's chunks; whether a stream may be. -/
import Derived.Test.YtdkonngkbbgcgaaGreatDoorStk
namespace Go.Proofs.YtdkonngkbbgcgaaGreatDoor
open Go.RowKit Go.Eng
set_option maxRecDepth 100000
set_option maxHeartbeats 40000000
theorem shaF_len (s : Bys) : (shaF s).length = 32 := hashL_length _
/-- Chunks in memory, not too many, not too long. -/
structure ChL (w : World) (a : Option Addr) (c : Nat) (l : List Bys) : Prop where
  str : StrL w a c (bas l)
  many : l.length ≤ 100000
  long : ∀ x ∈ l, x.length ≤ 65535
theorem ChL.keep {w0 w : World} {m : List Eng.Item} {a : Option Addr} {c : Nat} {l : List Bys} (h : ChL w0 a c l) (hw : Hp w0 none' m w) : ChL w a c l := ⟨h.str.keep hw, h.many, h.long⟩
theorem ChL.at_ {w : World} {a : Option Addr} {c : Nat} {l : List Bys} (h : ChL w a c l) (h0 : 0 < l.length) : ∃ b off, a = some ⟨b, off, none⟩ ∧ ∀ i (hi : i < l.length), w.cell? ⟨b, off + i, none⟩ = some (.string ⟨l[i].toArray⟩) := by
  obtain ⟨b, off, h1, h2⟩ := h.str.at_ (by rw [bas_len]; exact h0)
  exact ⟨b, off, h1, fun i hi => by rw [h2 i (by rw [bas_len]; exact hi), bas_at hi]⟩
theorem hashes_calls (r : Bys) (l : List Bys) (a : Option Addr) (c : Nat) (hr : r.length = 32) (w : World) (hs : ChL w a c l) (ht : Tabs w) :
    Ct Tryz.prog 29 #[.agg (strmA r a l.length c)] w none' (fun b : Nat => .tuple #[.map (some b), .bool (decide (l.map shaF).Nodup)]) (fun _ => True) (fun b => [mapAt b (allA l)]) := by
  refine ct_of [_] Tryz.func29 rfl rfl ?_
  simp only [argSlots]
  have hmany := hs.many
  have h32 := strm_32 r hr a l.length c
  (repeat first | with_reducible (first | apply t_seq | apply t_region | apply t_block | apply t_ret | apply t_skip | apply t_exit | apply l_nil | apply x_then | apply x_pass_exit | apply x_pass_ret | apply x_block_ret | apply x_block_normal | apply x_block_here | apply x_block_out rfl) | refine lAv rfl ?_ | refine l_no rfl ?_ | refine tT rfl rfl ?_ | refine tF rfl rfl ?_ | refine lT rfl rfl ?_ | refine lF rfl rfl ?_)
  refine l_boxa rfl rfl fun b1 hb1 => ?_
  (repeat first | with_reducible (first | apply t_seq | apply t_region | apply t_block | apply t_ret | apply t_skip | apply t_exit | apply l_nil | apply x_then | apply x_pass_exit | apply x_pass_ret | apply x_block_ret | apply x_block_normal | apply x_block_here | apply x_block_out rfl) | refine lAv rfl ?_ | refine l_no rfl ?_ | refine tT rfl rfl ?_ | refine tF rfl rfl ?_ | refine lT rfl rfl ?_ | refine lF rfl rfl ?_)
  refine l_op rfl (o_makemap rfl) fun ⟨bm, hbm⟩ => ?_
  (repeat first | with_reducible (first | apply t_seq | apply t_region | apply t_block | apply t_ret | apply t_skip | apply t_exit | apply l_nil | apply x_then | apply x_pass_exit | apply x_pass_ret | apply x_block_ret | apply x_block_normal | apply x_block_here | apply x_block_out rfl) | refine lAv rfl ?_ | refine l_no rfl ?_ | refine tT rfl rfl ?_ | refine tF rfl rfl ?_ | refine lT rfl rfl ?_ | refine lF rfl rfl ?_)
  refine l_w rfl (v_loadp rfl rfl (.tail _ (.head _)) h32) ?_
  (repeat first | with_reducible (first | apply t_seq | apply t_region | apply t_block | apply t_ret | apply t_skip | apply t_exit | apply l_nil | apply x_then | apply x_pass_exit | apply x_pass_ret | apply x_block_ret | apply x_block_normal | apply x_block_here | apply x_block_out rfl) | refine lAv rfl ?_ | refine l_no rfl ?_ | refine tT rfl rfl ?_ | refine tF rfl rfl ?_ | refine lT rfl rfl ?_ | refine lF rfl rfl ?_)
  refine t_for (α := Nat) (fun i => [(1, .pointer (some ⟨b1, 0, none⟩)), (4, .map (some bm)), (9, .slice a l.length c), (10, .int .i64 l.length), (11, .int .i64 i)]) (fun i => i ≤ l.length)
    (fun i => [mapAt bm (allA (l.take i)), pt b1 (.cells (strmA r a l.length c) 38 (0, 0))]) (fun i => l.length - i) 0 ⟨rfl, rfl, rfl, rfl, rfl, trivial⟩ (Nat.zero_le _) (fun w' hw' => hw') fun i hi => ?_
  by_cases hi2 : i < l.length
  · obtain ⟨b, off, rfl, hcell⟩ := hs.at_ (by omega)
    have hci := hcell i hi2
    have hup := all_up l hi2
    have hlong := hs.long _ (List.getElem_mem hi2)
    generalize l[i] = x at hci hup hlong
    have hxl := ba_len x
    (repeat first | with_reducible (first | apply t_seq | apply t_region | apply t_block | apply t_ret | apply t_skip | apply t_exit | apply l_nil | apply x_then | apply x_pass_exit | apply x_pass_ret | apply x_block_ret | apply x_block_normal | apply x_block_here | apply x_block_out rfl) | refine lAv rfl ?_ | refine l_no rfl ?_ | refine tT rfl rfl ?_ | refine tF rfl rfl ?_ | refine lT rfl rfl ?_ | refine lF rfl rfl ?_)
    refine l_w rfl (v_load0 rfl rfl (fun h => h) hci) ?_
    (repeat first | with_reducible (first | apply t_seq | apply t_region | apply t_block | apply t_ret | apply t_skip | apply t_exit | apply l_nil | apply x_then | apply x_pass_exit | apply x_pass_ret | apply x_block_ret | apply x_block_normal | apply x_block_here | apply x_block_out rfl) | refine lAv rfl ?_ | refine l_no rfl ?_ | refine tT rfl rfl ?_ | refine tF rfl rfl ?_ | refine lT rfl rfl ?_ | refine lF rfl rfl ?_)
    refine l_op rfl (o_strb rfl rfl rfl rfl) fun ⟨p, hp1, hp2⟩ => ?_
    refine l_opg rfl (o_pure rfl (by kernel_rfl) rfl (fun w1 hw1 => sha_calls (some ⟨p.1, 0, none⟩) (⟨x.toArray⟩ : ByteArray).size p.2 x hxl.symm hp2 (by omega) w1 (.inr ⟨p.1, 0, rfl, strRow_at (hw1.item _ (.head _)).1⟩) (ht.keep hw1))) fun _ => ?_
    (repeat first | with_reducible (first | apply t_seq | apply t_region | apply t_block | apply t_ret | apply t_skip | apply t_exit | apply l_nil | apply x_then | apply x_pass_exit | apply x_pass_ret | apply x_block_ret | apply x_block_normal | apply x_block_here | apply x_block_out rfl) | refine lAv rfl ?_ | refine l_no rfl ?_ | refine tT rfl rfl ?_ | refine tF rfl rfl ?_ | refine lT rfl rfl ?_ | refine lF rfl rfl ?_)
    refine l_say 20 _ (heldV x) rfl rfl ?_
    refine l_op rfl (ho_perm (bring1 _ _ _) (o_mapup hash_law hash_keys rfl rfl rfl rfl rfl (shaF_len x))) fun _ => ?_
    rw [← hup]
    (repeat first | with_reducible (first | apply t_seq | apply t_region | apply t_block | apply t_ret | apply t_skip | apply t_exit | apply l_nil | apply x_then | apply x_pass_exit | apply x_pass_ret | apply x_block_ret | apply x_block_normal | apply x_block_here | apply x_block_out rfl) | refine lAv rfl ?_ | refine l_no rfl ?_ | refine tT rfl rfl ?_ | refine tF rfl rfl ?_ | refine lT rfl rfl ?_ | refine lF rfl rfl ?_)
    exact x_round (i + 1) ⟨rfl, rfl, rfl, rfl, rfl, trivial⟩ hi2 (fun w' hw' => hw'.pick [0, 2] rfl rfl) (by omega)
  · obtain rfl : i = l.length := by omega
    rw [List.take_length]
    have hle := all_le l
    have hnd := all_len l
    (repeat first | with_reducible (first | apply t_seq | apply t_region | apply t_block | apply t_ret | apply t_skip | apply t_exit | apply l_nil | apply x_then | apply x_pass_exit | apply x_pass_ret | apply x_block_ret | apply x_block_normal | apply x_block_here | apply x_block_out rfl) | refine lAv rfl ?_ | refine l_no rfl ?_ | refine tT rfl rfl ?_ | refine tF rfl rfl ?_ | refine lT rfl rfl ?_ | refine lF rfl rfl ?_)
    refine t_drawp (by kernel_rfl) ?_
    (repeat first | refine dAv [] rfl rfl rfl ?_ | refine dno [] rfl rfl rfl ?_ | refine dT [] rfl rfl rfl rfl ?_ | refine dF [] rfl rfl rfl rfl ?_)
    refine d_v [] rfl rfl (by kernel_rfl) (fun _ h => h) rfl rfl (v_lenmap rfl rfl (.head _)) ?_
    (repeat first | refine dAv [] rfl rfl rfl ?_ | refine dno [] rfl rfl rfl ?_ | refine dT [] rfl rfl rfl rfl ?_ | refine dF [] rfl rfl rfl rfl ?_)
    refine d_v [] rfl rfl (by kernel_rfl) (fun _ h => h) rfl rfl (v_loadp rfl rfl (.tail _ (.head _)) h32) ?_
    (repeat first | refine dAv [] rfl rfl rfl ?_ | refine dno [] rfl rfl rfl ?_ | refine dT [] rfl rfl rfl rfl ?_ | refine dF [] rfl rfl rfl rfl ?_)
    refine d_end (by kernel_rfl) ?_
    (repeat first | with_reducible (first | apply t_seq | apply t_region | apply t_block | apply t_ret | apply t_skip | apply t_exit | apply l_nil | apply x_then | apply x_pass_exit | apply x_pass_ret | apply x_block_ret | apply x_block_normal | apply x_block_here | apply x_block_out rfl) | refine lAv rfl ?_ | refine l_no rfl ?_ | refine tT rfl rfl ?_ | refine tF rfl rfl ?_ | refine lT rfl rfl ?_ | refine lF rfl rfl ?_)
    have hb : (((allA l).length : Int) == (l.length : Int)) = decide (l.map shaF).Nodup := by
      rw [Bool.eq_iff_iff, beq_iff_eq, decide_eq_true_eq, ← hnd]
      omega
    rw [hb]
    exact x_ct2 bm rfl rfl rfl rfl trivial (.cons_cons _ (List.nil_sublist _)) (by simp [mapAt_stable])
end Go.Proofs.YtdkonngkbbgcgaaGreatDoor
