/- The document's chunks (armariumref12): the chunk of bytes. -/
import Derived.Test.YtdkonngkbbgcgaaGreatDoorRte
namespace Go.Proofs.YtdkonngkbbgcgaaGreatDoor
open Go.RowKit Go.Eng
set_option maxRecDepth 100000
set_option maxHeartbeats 40000000
theorem seq_ba2 (x y : Bys) : seq ⟨x.toArray⟩ ⟨y.toArray⟩ = decide (x = y) := by
  unfold seq
  by_cases h : x = y
  · subst h; simp
  · rw [decide_eq_false h, decide_eq_false]
    exact fun e => h (by have := congrArg (fun b => b.data.toList) e; simpa using this)
structure TR where
  i : Nat
  st : Opn
  ks : List CKid
  o : Option (Nat × Nat)
/-- An opener in memory. -/
abbrev opP (b : Nat) (o : Opn) : Eng.Item := pt b (.cells #[.string ⟨o.1.toArray⟩, .bool o.2] 99 (0, 0))
theorem kid2_put0 (nm : Bys) (d : Bool) : ((kid2 [] false).toArray.setIfInBounds 1 (.bool d)).setIfInBounds 0 (.string ⟨nm.toArray⟩) = (kid2 nm d).toArray := rfl
theorem opT_full (o : Opn) : (opT 32 o).1.length = 32 ∨ (opT 32 o).1 = [] := by
  unfold opT
  split
  · exact .inr rfl
  · split
    · exact .inr rfl
    · left; rw [List.length_take]; omega
theorem hash32_cop (t : Bys) (h : t.length = 32 ∨ t = []) (nm : Bys) (d : Bool) : put (kid2 nm d) 2 (bytesV t) = put (kid2 nm d) 2 (bytesV (hash32 t)) := by
  rcases h with h | rfl
  · rw [hash32_id h]
  · rfl
theorem rtake12_calls (bs : Bys) (hz : bs.length ≤ 1000000) (w : World) :
    Ct Tryz.prog 27 #[.string ⟨bs.toArray⟩] w none' (fun o : Option (Nat × Nat) => .tuple #[.agg #[.int .u8 ((chkF bs).getD noChk).kind, .string ⟨((chkF bs).getD noChk).data.toArray⟩, slV o ((chkF bs).getD noChk).kids.length], .int .i64 ((if (chkF bs).isSome then 0 else 3 : Nat) : Int)]) (fun _ => True)
      (fun o => [own 75 36 o ((chkF bs).getD noChk).kids.length (rowsV kidV ((chkF bs).getD noChk).kids)]) := by
  refine ct_of [_] Tryz.func27 rfl rfl ?_
  simp only [argSlots]
  have hbsl := ba_len bs
  (repeat first | with_reducible (first | apply t_seq | apply t_region | apply t_block | apply t_ret | apply t_skip | apply t_exit | apply l_nil | apply x_then | apply x_pass_exit | apply x_pass_ret | apply x_block_ret | apply x_block_normal | apply x_block_here | apply x_block_out rfl) | refine lAv rfl ?_ | refine l_no rfl ?_ | refine tT rfl rfl ?_ | refine tF rfl rfl ?_ | refine lT rfl rfl ?_ | refine lF rfl rfl ?_)
  refine l_alloca rfl rfl fun b2 hb2 => ?_
  (repeat first | with_reducible (first | apply t_seq | apply t_region | apply t_block | apply t_ret | apply t_skip | apply t_exit | apply l_nil | apply x_then | apply x_pass_exit | apply x_pass_ret | apply x_block_ret | apply x_block_normal | apply x_block_here | apply x_block_out rfl) | refine lAv rfl ?_ | refine l_no rfl ?_ | refine tT rfl rfl ?_ | refine tF rfl rfl ?_ | refine lT rfl rfl ?_ | refine lF rfl rfl ?_)
  cases bs with
  | nil =>
    rw [List.length_nil] at hbsl
    rw [chk_nil]
    simp only [Option.getD_none, Option.isSome_none, if_neg Bool.false_ne_true, noChk]
    (repeat first | with_reducible (first | apply t_seq | apply t_region | apply t_block | apply t_ret | apply t_skip | apply t_exit | apply l_nil | apply x_then | apply x_pass_exit | apply x_pass_ret | apply x_block_ret | apply x_block_normal | apply x_block_here | apply x_block_out rfl) | refine lAv rfl ?_ | refine l_no rfl ?_ | refine tT rfl rfl ?_ | refine tF rfl rfl ?_ | refine lT rfl rfl ?_ | refine lF rfl rfl ?_)
    refine l_say 22 _ (.agg #[.int .u8 0, .string ⟨#[]⟩, .slice none 0 0]) rfl rfl ?_
    refine l_op rfl (o_storea rfl rfl rfl rfl rfl rfl) fun _ => ?_
    (repeat first | with_reducible (first | apply t_seq | apply t_region | apply t_block | apply t_ret | apply t_skip | apply t_exit | apply l_nil | apply x_then | apply x_pass_exit | apply x_pass_ret | apply x_block_ret | apply x_block_normal | apply x_block_here | apply x_block_out rfl) | refine lAv rfl ?_ | refine l_no rfl ?_ | refine tT rfl rfl ?_ | refine tF rfl rfl ?_ | refine lT rfl rfl ?_ | refine lF rfl rfl ?_)
    refine x_imp (fun w hw => hp_nil1 75 36 hw) ?_
    exact x_ct2 none rfl ⟨_, rfl, loada_run rfl (.tail _ (.head _))⟩ rfl rfl trivial (.cons_cons _ (List.nil_sublist _)) (by simp [own_stable])
  | cons c0 r =>
    rw [List.length_cons] at hbsl hz
    have hc0 := c0.toNat_lt
    obtain ⟨K, hK⟩ : ∃ K, c0.toNat = K := ⟨_, rfl⟩
    rw [hK] at hc0
    have hrest : (⟨(c0 :: r).toArray⟩ : ByteArray).extract 1 (⟨(c0 :: r).toArray⟩ : ByteArray).size = ⟨r.toArray⟩ := by rw [ext_drop]; rfl
    obtain ⟨n0, hn0⟩ : ∃ K, (opN 1 (r, false)).1 = K := ⟨_, rfl⟩
    obtain ⟨stA, hstA⟩ : ∃ s, (opN 1 (r, false)).2 = s := ⟨_, rfl⟩
    have hA : opN 1 (r, false) = (n0, stA) := Prod.ext hn0 hstA
    have hn256 : n0 < 256 := by have := opN_lt 1 (r, false); rw [hn0] at this; exact this
    have hstAl : stA.1.length ≤ r.length := by have := opT_rest 1 (r, false); rw [← hstA]; exact this
    (repeat first | with_reducible (first | apply t_seq | apply t_region | apply t_block | apply t_ret | apply t_skip | apply t_exit | apply l_nil | apply x_then | apply x_pass_exit | apply x_pass_ret | apply x_block_ret | apply x_block_normal | apply x_block_here | apply x_block_out rfl) | refine lAv rfl ?_ | refine l_no rfl ?_ | refine tT rfl rfl ?_ | refine tF rfl rfl ?_ | refine lT rfl rfl ?_ | refine lF rfl rfl ?_)
    refine l_say 25 _ (.agg #[.int .u8 K, .string ⟨#[]⟩, .slice none 0 0]) rfl (by rw [← hK]; rfl) ?_
    refine l_alloca rfl rfl fun b4 hb4 => ?_
    refine l_op rfl (o_storea rfl rfl rfl rfl rfl rfl) fun _ => ?_
    (repeat first | with_reducible (first | apply t_seq | apply t_region | apply t_block | apply t_ret | apply t_skip | apply t_exit | apply l_nil | apply x_then | apply x_pass_exit | apply x_pass_ret | apply x_block_ret | apply x_block_normal | apply x_block_here | apply x_block_out rfl) | refine lAv rfl ?_ | refine l_no rfl ?_ | refine tT rfl rfl ?_ | refine tF rfl rfl ?_ | refine lT rfl rfl ?_ | refine lF rfl rfl ?_)
    obtain ⟨D, hD⟩ : ∃ D, (if K = 1 then r else []) = D := ⟨_, rfl⟩
    refine t_join (w0 := w) (F := none') (α := Unit) (fun _ => [(0, .string ⟨(c0 :: r).toArray⟩), (2, .pointer (some ⟨b2, 0, none⟩)), (4, .pointer (some ⟨b4, 0, none⟩))]) (fun _ => True)
      (fun _ => [pt b4 (.cells #[.int .u8 K, .string ⟨D.toArray⟩, .slice none 0 0] 70 (0, 0)), pt b2 (.cells #[.int .u8 0, .string ⟨#[]⟩, .slice none 0 0] 70 (0, 0))]) ?_ fun _ _ => ?_
    · by_cases k1 : K = 1
      · rw [if_pos k1] at hD
        subst hD
        (repeat first | with_reducible (first | apply t_seq | apply t_region | apply t_block | apply t_ret | apply t_skip | apply t_exit | apply l_nil | apply x_then | apply x_pass_exit | apply x_pass_ret | apply x_block_ret | apply x_block_normal | apply x_block_here | apply x_block_out rfl) | refine lAv rfl ?_ | refine l_no rfl ?_ | refine tT rfl rfl ?_ | refine tF rfl rfl ?_ | refine lT rfl rfl ?_ | refine lF rfl rfl ?_)
        refine l_say 30 _ (.string ⟨r.toArray⟩) rfl (congrArg Value.string hrest) ?_
        refine l_op rfl (o_store1 rfl rfl rfl rfl rfl rfl (by simp)) fun _ => ?_
        (repeat first | with_reducible (first | apply t_seq | apply t_region | apply t_block | apply t_ret | apply t_skip | apply t_exit | apply l_nil | apply x_then | apply x_pass_exit | apply x_pass_ret | apply x_block_ret | apply x_block_normal | apply x_block_here | apply x_block_out rfl) | refine lAv rfl ?_ | refine l_no rfl ?_ | refine tT rfl rfl ?_ | refine tF rfl rfl ?_ | refine lT rfl rfl ?_ | refine lF rfl rfl ?_)
        exact x_join () ⟨rfl, rfl, rfl, trivial⟩ trivial (fun w' hw' => hw')
      · rw [if_neg k1] at hD
        subst hD
        (repeat first | with_reducible (first | apply t_seq | apply t_region | apply t_block | apply t_ret | apply t_skip | apply t_exit | apply l_nil | apply x_then | apply x_pass_exit | apply x_pass_ret | apply x_block_ret | apply x_block_normal | apply x_block_here | apply x_block_out rfl) | refine lAv rfl ?_ | refine l_no rfl ?_ | refine tT rfl rfl ?_ | refine tF rfl rfl ?_ | refine lT rfl rfl ?_ | refine lF rfl rfl ?_)
        exact x_join () ⟨rfl, rfl, rfl, trivial⟩ trivial (fun w' hw' => hw')
    · (repeat first | with_reducible (first | apply t_seq | apply t_region | apply t_block | apply t_ret | apply t_skip | apply t_exit | apply l_nil | apply x_then | apply x_pass_exit | apply x_pass_ret | apply x_block_ret | apply x_block_normal | apply x_block_here | apply x_block_out rfl) | refine lAv rfl ?_ | refine l_no rfl ?_ | refine tT rfl rfl ?_ | refine tF rfl rfl ?_ | refine lT rfl rfl ?_ | refine lF rfl rfl ?_)
      refine l_say 34 _ (.agg #[.string ⟨r.toArray⟩, .bool false]) rfl (by rw [hrest]; rfl) ?_
      refine l_alloca rfl rfl fun b5 hb5 => ?_
      refine l_op rfl (o_storea rfl rfl rfl rfl rfl rfl) fun _ => ?_
      (repeat first | with_reducible (first | apply t_seq | apply t_region | apply t_block | apply t_ret | apply t_skip | apply t_exit | apply l_nil | apply x_then | apply x_pass_exit | apply x_pass_ret | apply x_block_ret | apply x_block_normal | apply x_block_here | apply x_block_out rfl) | refine lAv rfl ?_ | refine l_no rfl ?_ | refine tT rfl rfl ?_ | refine tF rfl rfl ?_ | refine lT rfl rfl ?_ | refine lF rfl rfl ?_)
      refine l_opg rfl (o_pure rfl (by kernel_rfl) rfl (fun w1 hw1 => rtake_calls (r, false) 1 (.inl rfl) w1)) fun _ => ?_
      rw [hn0, hstA]
      (repeat first | with_reducible (first | apply t_seq | apply t_region | apply t_block | apply t_ret | apply t_skip | apply t_exit | apply l_nil | apply x_then | apply x_pass_exit | apply x_pass_ret | apply x_block_ret | apply x_block_normal | apply x_block_here | apply x_block_out rfl) | refine lAv rfl ?_ | refine l_no rfl ?_ | refine tT rfl rfl ?_ | refine tF rfl rfl ?_ | refine lT rfl rfl ?_ | refine lF rfl rfl ?_)
      refine l_op rfl (o_storea (cs' := #[.string ⟨stA.1.toArray⟩, .bool stA.2]) rfl rfl rfl rfl rfl rfl) fun _ => ?_
      (repeat first | with_reducible (first | apply t_seq | apply t_region | apply t_block | apply t_ret | apply t_skip | apply t_exit | apply l_nil | apply x_then | apply x_pass_exit | apply x_pass_ret | apply x_block_ret | apply x_block_normal | apply x_block_here | apply x_block_out rfl) | refine lAv rfl ?_ | refine l_no rfl ?_ | refine tT rfl rfl ?_ | refine tF rfl rfl ?_ | refine lT rfl rfl ?_ | refine lF rfl rfl ?_)
      obtain ⟨m0, hm0⟩ : ∃ m, (if K = 1 then 0 else n0) = m := ⟨_, rfl⟩
      have hm0l : m0 ≤ n0 := by rw [← hm0]; split <;> omega
      obtain ⟨ksA, hksA⟩ : ∃ l, (kidsF K m0 stA).1 = l := ⟨_, rfl⟩
      have hpar : (parC (c0 :: r)).1 = ⟨K, D, ksA⟩ := by
        unfold parC
        rw [opN_cons, hK]
        simp only
        rw [hn0, hstA]
        by_cases k1 : K = 1
        · rw [if_pos k1] at hD hm0 ⊢
          rw [← hm0] at hksA
          rw [← hD, ← hksA, k1]; rfl
        · rw [if_neg k1] at hD hm0 ⊢
          rw [← hm0] at hksA
          rw [← hD, ← hksA]
      refine t_joinB (w0 := w) (F := none') (α := Option (Nat × Nat)) (fun _ => [(0, .string ⟨(c0 :: r).toArray⟩), (2, .pointer (some ⟨b2, 0, none⟩)), (4, .pointer (some ⟨b4, 0, none⟩))]) (fun _ => ksA.length ≤ 255 ∧ ∀ k ∈ ksA, KidOk k)
        (fun o => [pt b4 (.cells #[.int .u8 K, .string ⟨D.toArray⟩, slV o ksA.length] 70 (0, 0)), own 75 36 o ksA.length (rowsV kidV ksA), pt b2 (.cells #[.int .u8 0, .string ⟨#[]⟩, .slice none 0 0] 70 (0, 0))]) ?_ fun o9 ⟨hkl, hkok⟩ => ?_
      · refine t_for (α := TR) (fun y => [(0, .string ⟨(c0 :: r).toArray⟩), (2, .pointer (some ⟨b2, 0, none⟩)), (4, .pointer (some ⟨b4, 0, none⟩)), (5, .pointer (some ⟨b5, 0, none⟩)), (6, .int .u64 n0), (7, .int .u64 y.i)])
          (fun y => y.i ≤ m0 ∧ y.ks.length = y.i ∧ y.st.1.length ≤ r.length ∧ (∀ k ∈ y.ks, KidOk k) ∧ ksA = y.ks ++ (kidsF K (m0 - y.i) y.st).1)
          (fun y => [opP b5 y.st, pt b4 (.cells #[.int .u8 K, .string ⟨D.toArray⟩, slV y.o y.i] 70 (0, 0)), own 75 36 y.o y.i (rowsV kidV y.ks), pt b2 (.cells #[.int .u8 0, .string ⟨#[]⟩, .slice none 0 0] 70 (0, 0))]) (fun y => m0 - y.i) ⟨0, stA, [], none⟩ ⟨rfl, rfl, rfl, rfl, rfl, rfl, trivial⟩ ⟨Nat.zero_le _, rfl, hstAl, (fun _ h => nomatch h), hksA.symm⟩
          (fun w' hw' => (hp_nil1 75 36 hw').pick [1, 2, 0, 3] rfl rfl) fun ⟨i, st, ks, o⟩ ⟨g1, g2, g3, g4, g5⟩ => ?_
        simp only at g1 g2 g3 g4 g5 ⊢
        by_cases hi2 : i < m0
        · have k1 : ¬ K = 1 := fun h => by rw [if_pos h] at hm0; omega
          have hin : i < n0 := by omega
          obtain ⟨m, hm⟩ : ∃ m, m0 - i = m + 1 := ⟨m0 - i - 1, by omega⟩
          have hm2 : m0 - (i + 1) = m := by omega
          obtain ⟨nm, d, st', hkE, hK3, hnm⟩ : ∃ nm d st', kidF K st = kidE nm d st' ∧ ((K = 3 ∧ nm = (opName (opN 1 st).2).1 ∧ d = decide ((opN 1 st).1 = 1) ∧ st' = (opName (opN 1 st).2).2) ∨ (K ≠ 3 ∧ nm = [] ∧ d = false ∧ st' = st)) ∧ st'.1.length ≤ r.length := by
            by_cases k3 : K = 3
            · refine ⟨_, _, _, by unfold kidF; rw [if_pos k3], .inl ⟨k3, rfl, rfl, rfl⟩, ?_⟩
              exact Nat.le_trans (opName_rest _) (Nat.le_trans (opT_rest 1 st) g3)
            · exact ⟨[], false, st, by unfold kidF; rw [if_neg k3], .inr ⟨k3, rfl, rfl, rfl⟩, g3⟩
          rw [hm, kidsF, hkE] at g5
          (repeat first | with_reducible (first | apply t_seq | apply t_region | apply t_block | apply t_ret | apply t_skip | apply t_exit | apply l_nil | apply x_then | apply x_pass_exit | apply x_pass_ret | apply x_block_ret | apply x_block_normal | apply x_block_here | apply x_block_out rfl) | refine lAv rfl ?_ | refine l_no rfl ?_ | refine tT rfl rfl ?_ | refine tF rfl rfl ?_ | refine lT rfl rfl ?_ | refine lF rfl rfl ?_)
          refine l_alloca rfl rfl fun b8 hb8 => ?_
          (repeat first | with_reducible (first | apply t_seq | apply t_region | apply t_block | apply t_ret | apply t_skip | apply t_exit | apply l_nil | apply x_then | apply x_pass_exit | apply x_pass_ret | apply x_block_ret | apply x_block_normal | apply x_block_here | apply x_block_out rfl) | refine lAv rfl ?_ | refine l_no rfl ?_ | refine tT rfl rfl ?_ | refine tF rfl rfl ?_ | refine lT rfl rfl ?_ | refine lF rfl rfl ?_)
          refine t_pick (m' := [pt b8 (.cells (kid2 [] false).toArray 75 (0, 0)), opP b5 st, pt b4 (.cells #[.int .u8 K, .string ⟨D.toArray⟩, slV o i] 70 (0, 0)), own 75 36 o i (rowsV kidV ks), pt b2 (.cells #[.int .u8 0, .string ⟨#[]⟩, .slice none 0 0] 70 (0, 0))]) [0, 1, 2, 3, 4] rfl rfl ?_
          refine t_join (w0 := w) (F := none') (α := Unit) (fun _ => [(0, .string ⟨(c0 :: r).toArray⟩), (2, .pointer (some ⟨b2, 0, none⟩)), (4, .pointer (some ⟨b4, 0, none⟩)), (5, .pointer (some ⟨b5, 0, none⟩)), (6, .int .u64 n0), (7, .int .u64 i), (8, .pointer (some ⟨b8, 0, none⟩))]) (fun _ => True)
            (fun _ => [pt b8 (.cells (kid2 nm d).toArray 75 (0, 0)), opP b5 st', pt b4 (.cells #[.int .u8 K, .string ⟨D.toArray⟩, slV o i] 70 (0, 0)), own 75 36 o i (rowsV kidV ks), pt b2 (.cells #[.int .u8 0, .string ⟨#[]⟩, .slice none 0 0] 70 (0, 0))]) ?_ fun _ _ => ?_
          · rcases hK3 with ⟨k3, rfl, rfl, rfl⟩ | ⟨k3, rfl, rfl, rfl⟩
            · obtain ⟨v1, hv1⟩ : ∃ K, (opN 1 st).1 = K := ⟨_, rfl⟩
              obtain ⟨sB, hsB⟩ : ∃ s, (opN 1 st).2 = s := ⟨_, rfl⟩
              have hsBl : sB.1.length ≤ r.length := by have := opT_rest 1 st; rw [← hsB]; exact Nat.le_trans this g3
              rw [hv1, hsB]
              (repeat first | with_reducible (first | apply t_seq | apply t_region | apply t_block | apply t_ret | apply t_skip | apply t_exit | apply l_nil | apply x_then | apply x_pass_exit | apply x_pass_ret | apply x_block_ret | apply x_block_normal | apply x_block_here | apply x_block_out rfl) | refine lAv rfl ?_ | refine l_no rfl ?_ | refine tT rfl rfl ?_ | refine tF rfl rfl ?_ | refine lT rfl rfl ?_ | refine lF rfl rfl ?_)
              refine l_opg rfl (o_pure rfl (by kernel_rfl) rfl (fun w1 hw1 => rtake_calls st 1 (.inl rfl) w1)) fun _ => ?_
              rw [hv1, hsB]
              (repeat first | with_reducible (first | apply t_seq | apply t_region | apply t_block | apply t_ret | apply t_skip | apply t_exit | apply l_nil | apply x_then | apply x_pass_exit | apply x_pass_ret | apply x_block_ret | apply x_block_normal | apply x_block_here | apply x_block_out rfl) | refine lAv rfl ?_ | refine l_no rfl ?_ | refine tT rfl rfl ?_ | refine tF rfl rfl ?_ | refine lT rfl rfl ?_ | refine lF rfl rfl ?_)
              refine l_alloca rfl rfl fun b10 hb10 => ?_
              (repeat first | with_reducible (first | apply t_seq | apply t_region | apply t_block | apply t_ret | apply t_skip | apply t_exit | apply l_nil | apply x_then | apply x_pass_exit | apply x_pass_ret | apply x_block_ret | apply x_block_normal | apply x_block_here | apply x_block_out rfl) | refine lAv rfl ?_ | refine l_no rfl ?_ | refine tT rfl rfl ?_ | refine tF rfl rfl ?_ | refine lT rfl rfl ?_ | refine lF rfl rfl ?_)
              refine l_op rfl (o_storea (cs' := #[.string ⟨sB.1.toArray⟩, .bool sB.2]) rfl rfl rfl rfl rfl rfl) fun _ => ?_
              (repeat first | with_reducible (first | apply t_seq | apply t_region | apply t_block | apply t_ret | apply t_skip | apply t_exit | apply l_nil | apply x_then | apply x_pass_exit | apply x_pass_ret | apply x_block_ret | apply x_block_normal | apply x_block_here | apply x_block_out rfl) | refine lAv rfl ?_ | refine l_no rfl ?_ | refine tT rfl rfl ?_ | refine tF rfl rfl ?_ | refine lT rfl rfl ?_ | refine lF rfl rfl ?_)
              refine l_opg rfl (o_pure rfl (by kernel_rfl) rfl (fun w1 hw1 => rname_calls sB (by omega) w1)) fun _ => ?_
              generalize opName sB = q
              obtain ⟨nm, st'⟩ := q
              (repeat first | with_reducible (first | apply t_seq | apply t_region | apply t_block | apply t_ret | apply t_skip | apply t_exit | apply l_nil | apply x_then | apply x_pass_exit | apply x_pass_ret | apply x_block_ret | apply x_block_normal | apply x_block_here | apply x_block_out rfl) | refine lAv rfl ?_ | refine l_no rfl ?_ | refine tT rfl rfl ?_ | refine tF rfl rfl ?_ | refine lT rfl rfl ?_ | refine lF rfl rfl ?_)
              refine l_alloca rfl rfl fun b12 hb12 => ?_
              (repeat first | with_reducible (first | apply t_seq | apply t_region | apply t_block | apply t_ret | apply t_skip | apply t_exit | apply l_nil | apply x_then | apply x_pass_exit | apply x_pass_ret | apply x_block_ret | apply x_block_normal | apply x_block_here | apply x_block_out rfl) | refine lAv rfl ?_ | refine l_no rfl ?_ | refine tT rfl rfl ?_ | refine tF rfl rfl ?_ | refine lT rfl rfl ?_ | refine lF rfl rfl ?_)
              refine l_op rfl (o_storea (cs' := #[.string ⟨st'.1.toArray⟩, .bool st'.2]) rfl rfl rfl rfl rfl rfl) fun _ => ?_
              (repeat first | with_reducible (first | apply t_seq | apply t_region | apply t_block | apply t_ret | apply t_skip | apply t_exit | apply l_nil | apply x_then | apply x_pass_exit | apply x_pass_ret | apply x_block_ret | apply x_block_normal | apply x_block_here | apply x_block_out rfl) | refine lAv rfl ?_ | refine l_no rfl ?_ | refine tT rfl rfl ?_ | refine tF rfl rfl ?_ | refine lT rfl rfl ?_ | refine lF rfl rfl ?_)
              refine l_say 64 _ (.bool (decide (v1 = 1))) rfl (congrArg Value.bool (by by_cases h : v1 = 1 <;> simp [h]; omega)) ?_
              refine l_op rfl (ho_perm (bring2 _ _ _ _) (o_store1 rfl rfl rfl rfl rfl rfl (by rw [List.size_toArray]; decide))) fun _ => ?_
              (repeat first | with_reducible (first | apply t_seq | apply t_region | apply t_block | apply t_ret | apply t_skip | apply t_exit | apply l_nil | apply x_then | apply x_pass_exit | apply x_pass_ret | apply x_block_ret | apply x_block_normal | apply x_block_here | apply x_block_out rfl) | refine lAv rfl ?_ | refine l_no rfl ?_ | refine tT rfl rfl ?_ | refine tF rfl rfl ?_ | refine lT rfl rfl ?_ | refine lF rfl rfl ?_)
              refine l_op rfl (o_store1 rfl rfl rfl rfl rfl rfl (by rw [Array.size_setIfInBounds, List.size_toArray]; decide)) fun _ => ?_
              (repeat first | with_reducible (first | apply t_seq | apply t_region | apply t_block | apply t_ret | apply t_skip | apply t_exit | apply l_nil | apply x_then | apply x_pass_exit | apply x_pass_ret | apply x_block_ret | apply x_block_normal | apply x_block_here | apply x_block_out rfl) | refine lAv rfl ?_ | refine l_no rfl ?_ | refine tT rfl rfl ?_ | refine tF rfl rfl ?_ | refine lT rfl rfl ?_ | refine lF rfl rfl ?_)
              refine l_op rfl (ho_perm (bring3 _ _ _ _ _) (o_storea (cs' := #[.string ⟨st'.1.toArray⟩, .bool st'.2]) rfl rfl rfl rfl rfl rfl)) fun _ => ?_
              (repeat first | with_reducible (first | apply t_seq | apply t_region | apply t_block | apply t_ret | apply t_skip | apply t_exit | apply l_nil | apply x_then | apply x_pass_exit | apply x_pass_ret | apply x_block_ret | apply x_block_normal | apply x_block_here | apply x_block_out rfl) | refine lAv rfl ?_ | refine l_no rfl ?_ | refine tT rfl rfl ?_ | refine tF rfl rfl ?_ | refine lT rfl rfl ?_ | refine lF rfl rfl ?_)
              exact x_join () ⟨rfl, rfl, rfl, rfl, rfl, rfl, rfl, trivial⟩ trivial (fun w' hw' => hw'.pick [1, 0, 4, 5, 6] rfl rfl)
            · (repeat first | with_reducible (first | apply t_seq | apply t_region | apply t_block | apply t_ret | apply t_skip | apply t_exit | apply l_nil | apply x_then | apply x_pass_exit | apply x_pass_ret | apply x_block_ret | apply x_block_normal | apply x_block_here | apply x_block_out rfl) | refine lAv rfl ?_ | refine l_no rfl ?_ | refine tT rfl rfl ?_ | refine tF rfl rfl ?_ | refine lT rfl rfl ?_ | refine lF rfl rfl ?_)
              exact x_join () ⟨rfl, rfl, rfl, rfl, rfl, rfl, rfl, trivial⟩ trivial (fun w' hw' => hw')
          · obtain ⟨t, sH, hH⟩ : ∃ t s, opT 32 st' = (t, s) := ⟨_, _, rfl⟩
            obtain ⟨vh, s1, hv1⟩ : ∃ t s, opN 1 sH = (t, s) := ⟨_, _, rfl⟩
            obtain ⟨vs, s4, hv4⟩ : ∃ t s, opN 4 s1 = (t, s) := ⟨_, _, rfl⟩
            have hsHl : sH.1.length ≤ r.length := by have := opT_rest 32 st'; rw [hH] at this; exact Nat.le_trans this hnm
            have hs1l : s1.1.length ≤ r.length := by have := opT_rest 1 sH; have e : (opT 1 sH).2 = s1 := congrArg Prod.snd hv1; rw [e] at this; omega
            have hs4l : s4.1.length ≤ r.length := by have := opT_rest 4 s1; have e : (opT 4 s1).2 = s4 := congrArg Prod.snd hv4; rw [e] at this; omega
            have hvh : vh < 256 := by have := opN_lt 1 sH; rw [hv1] at this; exact this
            have hvs : vs < 4294967296 := by have := opN_lt 4 s1; rw [hv4] at this; exact this
            have htl : t.length = 32 ∨ t = [] := by have := opT_full st'; rw [hH] at this; exact this
            have htl2 : t.length ≤ 32 := by rcases htl with h | h <;> simp [h]
            have hkk : kidE nm d st' = (⟨nm, d, hash32 t, vh, vs⟩, s4) := by
              unfold kidE; rw [hH]; simp only; rw [hv1]; simp only; rw [hv4]
            have hkok : KidOk ⟨nm, d, hash32 t, vh, vs⟩ := by have := kidF_ok K st; rw [hkE, hkk] at this; exact this
            rw [hkk] at g5
            have hpl : (put (kid2 nm d) 2 (bytesV (hash32 t))).length = 36 := by rw [put_length (by rw [bytesV_length, hash32_len, kid2_len]; decide)]; rfl
            have hdone := kid_done nm d (hash32 t) (hash32_len t) vh vs
            have hcop := hash32_cop t htl nm d
            (repeat first | with_reducible (first | apply t_seq | apply t_region | apply t_block | apply t_ret | apply t_skip | apply t_exit | apply l_nil | apply x_then | apply x_pass_exit | apply x_pass_ret | apply x_block_ret | apply x_block_normal | apply x_block_here | apply x_block_out rfl) | refine lAv rfl ?_ | refine l_no rfl ?_ | refine tT rfl rfl ?_ | refine tF rfl rfl ?_ | refine lT rfl rfl ?_ | refine lF rfl rfl ?_)
            refine l_opg rfl (o_pure rfl (by kernel_rfl) rfl (fun w1 hw1 => rtext_calls st' 32 (by decide) w1)) fun _ => ?_
            rw [hH]
            simp only
            (repeat first | with_reducible (first | apply t_seq | apply t_region | apply t_block | apply t_ret | apply t_skip | apply t_exit | apply l_nil | apply x_then | apply x_pass_exit | apply x_pass_ret | apply x_block_ret | apply x_block_normal | apply x_block_here | apply x_block_out rfl) | refine lAv rfl ?_ | refine l_no rfl ?_ | refine tT rfl rfl ?_ | refine tF rfl rfl ?_ | refine lT rfl rfl ?_ | refine lF rfl rfl ?_)
            refine l_alloca rfl rfl fun b14 hb14 => ?_
            (repeat first | with_reducible (first | apply t_seq | apply t_region | apply t_block | apply t_ret | apply t_skip | apply t_exit | apply l_nil | apply x_then | apply x_pass_exit | apply x_pass_ret | apply x_block_ret | apply x_block_normal | apply x_block_here | apply x_block_out rfl) | refine lAv rfl ?_ | refine l_no rfl ?_ | refine tT rfl rfl ?_ | refine tF rfl rfl ?_ | refine lT rfl rfl ?_ | refine lF rfl rfl ?_)
            refine l_op rfl (o_storea (cs' := #[.string ⟨sH.1.toArray⟩, .bool sH.2]) rfl rfl rfl rfl rfl rfl) fun _ => ?_
            (repeat first | with_reducible (first | apply t_seq | apply t_region | apply t_block | apply t_ret | apply t_skip | apply t_exit | apply l_nil | apply x_then | apply x_pass_exit | apply x_pass_ret | apply x_block_ret | apply x_block_normal | apply x_block_here | apply x_block_out rfl) | refine lAv rfl ?_ | refine l_no rfl ?_ | refine tT rfl rfl ?_ | refine tF rfl rfl ?_ | refine lT rfl rfl ?_ | refine lF rfl rfl ?_)
            refine l_opg rfl (o_pure rfl (by kernel_rfl) rfl (fun w1 hw1 => rtake_calls sH 1 (.inl rfl) w1)) fun _ => ?_
            rw [hv1]
            simp only
            (repeat first | with_reducible (first | apply t_seq | apply t_region | apply t_block | apply t_ret | apply t_skip | apply t_exit | apply l_nil | apply x_then | apply x_pass_exit | apply x_pass_ret | apply x_block_ret | apply x_block_normal | apply x_block_here | apply x_block_out rfl) | refine lAv rfl ?_ | refine l_no rfl ?_ | refine tT rfl rfl ?_ | refine tF rfl rfl ?_ | refine lT rfl rfl ?_ | refine lF rfl rfl ?_)
            refine l_alloca rfl rfl fun b16 hb16 => ?_
            (repeat first | with_reducible (first | apply t_seq | apply t_region | apply t_block | apply t_ret | apply t_skip | apply t_exit | apply l_nil | apply x_then | apply x_pass_exit | apply x_pass_ret | apply x_block_ret | apply x_block_normal | apply x_block_here | apply x_block_out rfl) | refine lAv rfl ?_ | refine l_no rfl ?_ | refine tT rfl rfl ?_ | refine tF rfl rfl ?_ | refine lT rfl rfl ?_ | refine lF rfl rfl ?_)
            refine l_op rfl (o_storea (cs' := #[.string ⟨s1.1.toArray⟩, .bool s1.2]) rfl rfl rfl rfl rfl rfl) fun _ => ?_
            (repeat first | with_reducible (first | apply t_seq | apply t_region | apply t_block | apply t_ret | apply t_skip | apply t_exit | apply l_nil | apply x_then | apply x_pass_exit | apply x_pass_ret | apply x_block_ret | apply x_block_normal | apply x_block_here | apply x_block_out rfl) | refine lAv rfl ?_ | refine l_no rfl ?_ | refine tT rfl rfl ?_ | refine tF rfl rfl ?_ | refine lT rfl rfl ?_ | refine lF rfl rfl ?_)
            refine l_opg rfl (o_pure rfl (by kernel_rfl) rfl (fun w1 hw1 => rtake_calls s1 4 (.inr (.inr (.inl rfl))) w1)) fun _ => ?_
            rw [hv4]
            simp only
            (repeat first | with_reducible (first | apply t_seq | apply t_region | apply t_block | apply t_ret | apply t_skip | apply t_exit | apply l_nil | apply x_then | apply x_pass_exit | apply x_pass_ret | apply x_block_ret | apply x_block_normal | apply x_block_here | apply x_block_out rfl) | refine lAv rfl ?_ | refine l_no rfl ?_ | refine tT rfl rfl ?_ | refine tF rfl rfl ?_ | refine lT rfl rfl ?_ | refine lF rfl rfl ?_)
            refine l_alloca rfl rfl fun b18 hb18 => ?_
            (repeat first | with_reducible (first | apply t_seq | apply t_region | apply t_block | apply t_ret | apply t_skip | apply t_exit | apply l_nil | apply x_then | apply x_pass_exit | apply x_pass_ret | apply x_block_ret | apply x_block_normal | apply x_block_here | apply x_block_out rfl) | refine lAv rfl ?_ | refine l_no rfl ?_ | refine tT rfl rfl ?_ | refine tF rfl rfl ?_ | refine lT rfl rfl ?_ | refine lF rfl rfl ?_)
            refine l_op rfl (o_storea (cs' := #[.string ⟨s4.1.toArray⟩, .bool s4.2]) rfl rfl rfl rfl rfl rfl) fun _ => ?_
            (repeat first | with_reducible (first | apply t_seq | apply t_region | apply t_block | apply t_ret | apply t_skip | apply t_exit | apply l_nil | apply x_then | apply x_pass_exit | apply x_pass_ret | apply x_block_ret | apply x_block_normal | apply x_block_here | apply x_block_out rfl) | refine lAv rfl ?_ | refine l_no rfl ?_ | refine tT rfl rfl ?_ | refine tF rfl rfl ?_ | refine lT rfl rfl ?_ | refine lF rfl rfl ?_)
            refine l_op rfl (ho_perm (bring4 _ _ _ _ _ _) (o_storea (cs' := #[.string ⟨s4.1.toArray⟩, .bool s4.2]) rfl rfl rfl rfl rfl rfl)) fun _ => ?_
            (repeat first | with_reducible (first | apply t_seq | apply t_region | apply t_block | apply t_ret | apply t_skip | apply t_exit | apply l_nil | apply x_then | apply x_pass_exit | apply x_pass_ret | apply x_block_ret | apply x_block_normal | apply x_block_here | apply x_block_out rfl) | refine lAv rfl ?_ | refine l_no rfl ?_ | refine tT rfl rfl ?_ | refine tF rfl rfl ?_ | refine lT rfl rfl ?_ | refine lF rfl rfl ?_)
            refine l_w rfl (v_slarr rfl rfl rfl rfl) ?_
            (repeat first | with_reducible (first | apply t_seq | apply t_region | apply t_block | apply t_ret | apply t_skip | apply t_exit | apply l_nil | apply x_then | apply x_pass_exit | apply x_pass_ret | apply x_block_ret | apply x_block_normal | apply x_block_here | apply x_block_out rfl) | refine lAv rfl ?_ | refine l_no rfl ?_ | refine tT rfl rfl ?_ | refine tF rfl rfl ?_ | refine lT rfl rfl ?_ | refine lF rfl rfl ?_)
            refine l_op rfl (ho_perm (bring4 _ _ _ _ _ _) (o_copys (cur := kid2 nm d) (s := t) rfl rfl rfl rfl rfl htl2 (by rw [kid2_len]; omega))) fun _ => ?_
            rw [hcop]
            (repeat first | with_reducible (first | apply t_seq | apply t_region | apply t_block | apply t_ret | apply t_skip | apply t_exit | apply l_nil | apply x_then | apply x_pass_exit | apply x_pass_ret | apply x_block_ret | apply x_block_normal | apply x_block_here | apply x_block_out rfl) | refine lAv rfl ?_ | refine l_no rfl ?_ | refine tT rfl rfl ?_ | refine tF rfl rfl ?_ | refine lT rfl rfl ?_ | refine lF rfl rfl ?_)
            refine l_op rfl (o_store1 rfl rfl rfl rfl rfl rfl (by rw [List.size_toArray, hpl]; decide)) fun _ => ?_
            (repeat first | with_reducible (first | apply t_seq | apply t_region | apply t_block | apply t_ret | apply t_skip | apply t_exit | apply l_nil | apply x_then | apply x_pass_exit | apply x_pass_ret | apply x_block_ret | apply x_block_normal | apply x_block_here | apply x_block_out rfl) | refine lAv rfl ?_ | refine l_no rfl ?_ | refine tT rfl rfl ?_ | refine tF rfl rfl ?_ | refine lT rfl rfl ?_ | refine lF rfl rfl ?_)
            refine l_op rfl (o_store1 rfl rfl rfl rfl rfl rfl (by rw [Array.size_setIfInBounds, List.size_toArray, hpl]; decide)) fun _ => ?_
            rw [hdone]
            (repeat first | with_reducible (first | apply t_seq | apply t_region | apply t_block | apply t_ret | apply t_skip | apply t_exit | apply l_nil | apply x_then | apply x_pass_exit | apply x_pass_ret | apply x_block_ret | apply x_block_normal | apply x_block_here | apply x_block_out rfl) | refine lAv rfl ?_ | refine l_no rfl ?_ | refine tT rfl rfl ?_ | refine tF rfl rfl ?_ | refine lT rfl rfl ?_ | refine lF rfl rfl ?_)
            generalize hkk2 : (⟨nm, d, hash32 t, vh, vs⟩ : CKid) = kk at hkok g5
            refine l_w rfl (v_loada rfl (by rw [List.size_toArray, kidV_len]; rfl) (.head _)) ?_
            refine l_op rfl (o_buildslice (L := [(0, 36, .agg (kidV kk).toArray)]) rfl rfl rfl rfl rfl (okParts_one (by rw [List.size_toArray, kidV_len]) (by decide))) fun ⟨bq, hbq⟩ => ?_
            (repeat first | with_reducible (first | apply t_seq | apply t_region | apply t_block | apply t_ret | apply t_skip | apply t_exit | apply l_nil | apply x_then | apply x_pass_exit | apply x_pass_ret | apply x_block_ret | apply x_block_normal | apply x_block_here | apply x_block_out rfl) | refine lAv rfl ?_ | refine l_no rfl ?_ | refine tT rfl rfl ?_ | refine tF rfl rfl ?_ | refine lT rfl rfl ?_ | refine lF rfl rfl ?_)
            refine l_op rfl (ho_perm (bring7 _ _ _ _ _ _ _ _ _) (o_append (news := kidV kk) rfl rfl rfl rfl rfl rfl (by rw [kidV_len]) (kid_one kk) (by omega) (fun w' hw' j v hj => by rw [add_at, Nat.zero_add]; refine own_rd (hw'.item _ (.tail _ (.head _))).1 j v ?_; rw [build_one (by rw [zerosL, List.length_map, List.length_range, kidV_len])]; exact hj))) fun o' => ?_
            (repeat first | with_reducible (first | apply t_seq | apply t_region | apply t_block | apply t_ret | apply t_skip | apply t_exit | apply l_nil | apply x_then | apply x_pass_exit | apply x_pass_ret | apply x_block_ret | apply x_block_normal | apply x_block_here | apply x_block_out rfl) | refine lAv rfl ?_ | refine l_no rfl ?_ | refine tT rfl rfl ?_ | refine tF rfl rfl ?_ | refine lT rfl rfl ?_ | refine lF rfl rfl ?_)
            refine l_op rfl (ho_perm (bring7 _ _ _ _ _ _ _ _ _) (o_store1 rfl rfl rfl rfl (slV_cells _ _) (slV_one _ _) (by simp))) fun _ => ?_
            (repeat first | with_reducible (first | apply t_seq | apply t_region | apply t_block | apply t_ret | apply t_skip | apply t_exit | apply l_nil | apply x_then | apply x_pass_exit | apply x_pass_ret | apply x_block_ret | apply x_block_normal | apply x_block_here | apply x_block_out rfl) | refine lAv rfl ?_ | refine l_no rfl ?_ | refine tT rfl rfl ?_ | refine tF rfl rfl ?_ | refine lT rfl rfl ?_ | refine lF rfl rfl ?_)
            refine x_round ⟨i + 1, s4, ks ++ [kk], o'⟩ ⟨rfl, rfl, rfl, rfl, rfl, rfl, trivial⟩ ⟨hi2, by simp only [List.length_append, List.length_singleton, g2], hs4l, fun q hq => ?_, ?_⟩ (fun w' hw' => ?_) (by simp only; omega)
            · rcases List.mem_append.1 hq with hq | hq
              · exact g4 q hq
              · rw [List.mem_singleton.1 hq]; exact hkok
            · simp only [hm2]
              rw [g5, List.append_assoc]; rfl
            · simp only [rowsV_append, rowsV_one]
              exact hw'.pick [4, 0, 1, 8] rfl rfl
        · obtain rfl : i = m0 := by omega
          rw [Nat.sub_self] at g5
          have g5' : ksA = ks := by rw [g5]; simp [kidsF]
          by_cases k1 : K = 1
          · rw [if_pos k1] at hm0
            by_cases hn : i < n0
            · (repeat first | with_reducible (first | apply t_seq | apply t_region | apply t_block | apply t_ret | apply t_skip | apply t_exit | apply l_nil | apply x_then | apply x_pass_exit | apply x_pass_ret | apply x_block_ret | apply x_block_normal | apply x_block_here | apply x_block_out rfl) | refine lAv rfl ?_ | refine l_no rfl ?_ | refine tT rfl rfl ?_ | refine tF rfl rfl ?_ | refine lT rfl rfl ?_ | refine lF rfl rfl ?_)
              exact x_join o ⟨rfl, rfl, rfl, trivial⟩ ⟨by rw [g5']; omega, by rw [g5']; exact g4⟩ (fun w' hw' => by simp only [g5', g2]; exact hw'.pick [1, 2, 3] rfl rfl)
            · (repeat first | with_reducible (first | apply t_seq | apply t_region | apply t_block | apply t_ret | apply t_skip | apply t_exit | apply l_nil | apply x_then | apply x_pass_exit | apply x_pass_ret | apply x_block_ret | apply x_block_normal | apply x_block_here | apply x_block_out rfl) | refine lAv rfl ?_ | refine l_no rfl ?_ | refine tT rfl rfl ?_ | refine tF rfl rfl ?_ | refine lT rfl rfl ?_ | refine lF rfl rfl ?_)
              exact x_join o ⟨rfl, rfl, rfl, trivial⟩ ⟨by rw [g5']; omega, by rw [g5']; exact g4⟩ (fun w' hw' => by simp only [g5', g2]; exact hw'.pick [1, 2, 3] rfl rfl)
          · rw [if_neg k1] at hm0
            (repeat first | with_reducible (first | apply t_seq | apply t_region | apply t_block | apply t_ret | apply t_skip | apply t_exit | apply l_nil | apply x_then | apply x_pass_exit | apply x_pass_ret | apply x_block_ret | apply x_block_normal | apply x_block_here | apply x_block_out rfl) | refine lAv rfl ?_ | refine l_no rfl ?_ | refine tT rfl rfl ?_ | refine tF rfl rfl ?_ | refine lT rfl rfl ?_ | refine lF rfl rfl ?_)
            exact x_join o ⟨rfl, rfl, rfl, trivial⟩ ⟨by rw [g5']; omega, by rw [g5']; exact g4⟩ (fun w' hw' => by simp only [g5', g2]; exact hw'.pick [1, 2, 3] rfl rfl)
      · have hks1 : K = 1 → ksA = [] := fun h => by rw [if_pos h] at hm0; rw [← hksA, ← hm0]; rfl
        have hD0 : K ≠ 1 → D = [] := fun h => by rw [← hD, if_neg h]
        have hDl : D.length ≤ 1000000 := by
          rw [← hD]
          split
          · omega
          · exact Nat.zero_le _
        have hch := chk_two (c0 :: r)
        rw [hpar] at hch
        refine t_fact (fun w hw => (own_val (hw.item (own 75 36 o9 ksA.length (rowsV kidV ksA)) (by simp)).1)) fun ⟨hsl, hcap⟩ => ?_
        rw [hsl]
        (repeat first | with_reducible (first | apply t_seq | apply t_region | apply t_block | apply t_ret | apply t_skip | apply t_exit | apply l_nil | apply x_then | apply x_pass_exit | apply x_pass_ret | apply x_block_ret | apply x_block_normal | apply x_block_here | apply x_block_out rfl) | refine lAv rfl ?_ | refine l_no rfl ?_ | refine tT rfl rfl ?_ | refine tF rfl rfl ?_ | refine lT rfl rfl ?_ | refine lF rfl rfl ?_)
        refine l_opg rfl (o_pure rfl (by kernel_rfl) rfl (fun w1 hw1 => rmay_calls K D ksA (slA o9) (slC o9) hc0 hkok (by omega) (by omega) w1 (own_Rd (hw1.item (own 75 36 o9 ksA.length (rowsV kidV ksA)) (by simp)).1))) fun _ => ?_
        by_cases hm : mayC ⟨K, D, ksA⟩ = true
        · rw [hm]
          (repeat first | with_reducible (first | apply t_seq | apply t_region | apply t_block | apply t_ret | apply t_skip | apply t_exit | apply l_nil | apply x_then | apply x_pass_exit | apply x_pass_ret | apply x_block_ret | apply x_block_normal | apply x_block_here | apply x_block_out rfl) | refine lAv rfl ?_ | refine l_no rfl ?_ | refine tT rfl rfl ?_ | refine tF rfl rfl ?_ | refine lT rfl rfl ?_ | refine lF rfl rfl ?_)
          refine l_opg rfl (o_pure rfl (by kernel_rfl) rfl (fun w1 hw1 => rput_calls K D ksA (slA o9) (slC o9) hc0 hkok hkl (by omega) hks1 hD0 w1 (own_Rd (hw1.item (own 75 36 o9 ksA.length (rowsV kidV ksA)) (by simp)).1))) fun _ => ?_
          by_cases hq : putC ⟨K, D, ksA⟩ = c0 :: r
          · have hyes : chkF (c0 :: r) = some ⟨K, D, ksA⟩ := by rw [hch, if_pos ⟨hm, hq⟩]
            rw [hyes, hq]
            simp only [Option.getD_some, Option.isSome_some, if_true]
            (repeat first | with_reducible (first | apply t_seq | apply t_region | apply t_block | apply t_ret | apply t_skip | apply t_exit | apply l_nil | apply x_then | apply x_pass_exit | apply x_pass_ret | apply x_block_ret | apply x_block_normal | apply x_block_here | apply x_block_out rfl) | refine lAv rfl ?_ | refine l_no rfl ?_ | refine tT rfl rfl ?_ | refine tF rfl rfl ?_ | refine lT rfl rfl ?_ | refine lF rfl rfl ?_)
            refine l_say 108 _ (.bool false) rfl (congrArg Value.bool (by rw [(seq_ba2 _ _).trans (decide_eq_true rfl)]; rfl)) ?_
            (repeat first | with_reducible (first | apply t_seq | apply t_region | apply t_block | apply t_ret | apply t_skip | apply t_exit | apply l_nil | apply x_then | apply x_pass_exit | apply x_pass_ret | apply x_block_ret | apply x_block_normal | apply x_block_here | apply x_block_out rfl) | refine lAv rfl ?_ | refine l_no rfl ?_ | refine tT rfl rfl ?_ | refine tF rfl rfl ?_ | refine lT rfl rfl ?_ | refine lF rfl rfl ?_)
            refine l_op rfl (ho_perm (bring2 _ _ _ _) (o_storea rfl rfl rfl rfl rfl rfl)) fun _ => ?_
            (repeat first | with_reducible (first | apply t_seq | apply t_region | apply t_block | apply t_ret | apply t_skip | apply t_exit | apply l_nil | apply x_then | apply x_pass_exit | apply x_pass_ret | apply x_block_ret | apply x_block_normal | apply x_block_here | apply x_block_out rfl) | refine lAv rfl ?_ | refine l_no rfl ?_ | refine tT rfl rfl ?_ | refine tF rfl rfl ?_ | refine lT rfl rfl ?_ | refine lF rfl rfl ?_)
            rw [← hsl]
            exact x_ct2 o9 rfl ⟨_, rfl, loada_run rfl (.head _)⟩ rfl rfl trivial (.cons _ (.cons _ (.refl _))) (by simp [own_stable])
          · have hn0' : chkF (c0 :: r) = none := by rw [hch, if_neg fun h => hq h.2]
            rw [hn0']
            have hq2 : ¬ (⟨(putC ⟨K, D, ksA⟩).toArray⟩ : ByteArray) = ⟨(c0 :: r).toArray⟩ := fun e => hq (by have := congrArg (fun b => b.data.toList) e; simpa using this)
            simp only [Option.getD_none, Option.isSome_none, if_neg Bool.false_ne_true, noChk]
            (repeat first | with_reducible (first | apply t_seq | apply t_region | apply t_block | apply t_ret | apply t_skip | apply t_exit | apply l_nil | apply x_then | apply x_pass_exit | apply x_pass_ret | apply x_block_ret | apply x_block_normal | apply x_block_here | apply x_block_out rfl) | refine lAv rfl ?_ | refine l_no rfl ?_ | refine tT rfl rfl ?_ | refine tF rfl rfl ?_ | refine lT rfl rfl ?_ | refine lF rfl rfl ?_)
            refine l_say 110 _ (.agg #[.int .u8 0, .string ⟨#[]⟩, .slice none 0 0]) rfl rfl ?_
            refine l_op rfl (ho_perm (bring2 _ _ _ _) (o_storea rfl rfl rfl rfl rfl rfl)) fun _ => ?_
            (repeat first | with_reducible (first | apply t_seq | apply t_region | apply t_block | apply t_ret | apply t_skip | apply t_exit | apply l_nil | apply x_then | apply x_pass_exit | apply x_pass_ret | apply x_block_ret | apply x_block_normal | apply x_block_here | apply x_block_out rfl) | refine lAv rfl ?_ | refine l_no rfl ?_ | refine tT rfl rfl ?_ | refine tF rfl rfl ?_ | refine lT rfl rfl ?_ | refine lF rfl rfl ?_)
            refine x_imp (fun w hw => hp_nil1 75 36 hw) ?_
            exact x_ct2 none rfl ⟨_, rfl, loada_run rfl (.tail _ (.head _))⟩ rfl rfl trivial (.cons_cons _ (List.nil_sublist _)) (by simp [own_stable])
        · have hn0' : chkF (c0 :: r) = none := by rw [hch, if_neg fun h => hm h.1]
          rw [hn0', Bool.eq_false_iff.2 hm]
          simp only [Option.getD_none, Option.isSome_none, if_neg Bool.false_ne_true, noChk]
          (repeat first | with_reducible (first | apply t_seq | apply t_region | apply t_block | apply t_ret | apply t_skip | apply t_exit | apply l_nil | apply x_then | apply x_pass_exit | apply x_pass_ret | apply x_block_ret | apply x_block_normal | apply x_block_here | apply x_block_out rfl) | refine lAv rfl ?_ | refine l_no rfl ?_ | refine tT rfl rfl ?_ | refine tF rfl rfl ?_ | refine lT rfl rfl ?_ | refine lF rfl rfl ?_)
          refine l_say 110 _ (.agg #[.int .u8 0, .string ⟨#[]⟩, .slice none 0 0]) rfl rfl ?_
          refine l_op rfl (ho_perm (bring2 _ _ _ _) (o_storea rfl rfl rfl rfl rfl rfl)) fun _ => ?_
          (repeat first | with_reducible (first | apply t_seq | apply t_region | apply t_block | apply t_ret | apply t_skip | apply t_exit | apply l_nil | apply x_then | apply x_pass_exit | apply x_pass_ret | apply x_block_ret | apply x_block_normal | apply x_block_here | apply x_block_out rfl) | refine lAv rfl ?_ | refine l_no rfl ?_ | refine tT rfl rfl ?_ | refine tF rfl rfl ?_ | refine lT rfl rfl ?_ | refine lF rfl rfl ?_)
          refine x_imp (fun w hw => hp_nil1 75 36 hw) ?_
          exact x_ct2 none rfl ⟨_, rfl, loada_run rfl (.tail _ (.head _))⟩ rfl rfl trivial (.cons_cons _ (List.nil_sublist _)) (by simp [own_stable])
end Go.Proofs.YtdkonngkbbgcgaaGreatDoor
