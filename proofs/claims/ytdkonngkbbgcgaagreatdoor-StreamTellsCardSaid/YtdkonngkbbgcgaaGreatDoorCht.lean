/- package chunk: the chunk of bytes. -/
import Derived.Test.YtdkonngkbbgcgaaGreatDoorChz
namespace Go.Proofs.YtdkonngkbbgcgaaGreatDoor
open Go.RowKit Go.Eng
set_option maxRecDepth 100000
set_option maxHeartbeats 40000000
theorem equal_calls (a a' : Option Addr) (n n' c c' : Nat) (x y : Bys) (hx : x.length = n) (hy : y.length = n') (w : World) (h1 : Rd w a (bytesV x)) (h2 : Rd w a' (bytesV y)) :
    Pu Tryz.prog 63 #[.slice a n c, .slice a' n' c'] w (.bool (decide (x = y))) := by
  refine pu_of [_, _] Tryz.func63 rfl rfl ?_
  simp only [argSlots, Nat.reduceAdd]
  (repeat first | with_reducible (first | apply t_seq | apply t_region | apply t_block | apply t_ret | apply t_skip | apply t_exit | apply l_nil | apply x_then | apply x_pass_exit | apply x_pass_ret | apply x_block_ret | apply x_block_normal | apply x_block_here | apply x_block_out rfl) | refine lAv rfl ?_ | refine l_no rfl ?_ | refine tT rfl rfl ?_ | refine tF rfl rfl ?_ | refine lT rfl rfl ?_ | refine lF rfl rfl ?_)
  refine l_w rfl (v_bstr rfl hx.symm rfl rfl (fun w1 hw1 => h1.keep hw1)) ?_
  (repeat first | with_reducible (first | apply t_seq | apply t_region | apply t_block | apply t_ret | apply t_skip | apply t_exit | apply l_nil | apply x_then | apply x_pass_exit | apply x_pass_ret | apply x_block_ret | apply x_block_normal | apply x_block_here | apply x_block_out rfl) | refine lAv rfl ?_ | refine l_no rfl ?_ | refine tT rfl rfl ?_ | refine tF rfl rfl ?_ | refine lT rfl rfl ?_ | refine lF rfl rfl ?_)
  refine l_w rfl (v_bstr rfl hy.symm rfl rfl (fun w1 hw1 => h2.keep hw1)) ?_
  (repeat first | with_reducible (first | apply t_seq | apply t_region | apply t_block | apply t_ret | apply t_skip | apply t_exit | apply l_nil | apply x_then | apply x_pass_exit | apply x_pass_ret | apply x_block_ret | apply x_block_normal | apply x_block_here | apply x_block_out rfl) | refine lAv rfl ?_ | refine l_no rfl ?_ | refine tT rfl rfl ?_ | refine tF rfl rfl ?_ | refine lT rfl rfl ?_ | refine lF rfl rfl ?_)
  have e : seq ⟨x.toArray⟩ ⟨y.toArray⟩ = decide (x = y) := by
    rw [seq_list, Bool.eq_iff_iff]
    simp
  rw [e]
  exact x_pu rfl rfl rfl
/-- The chunk of a row that failed. -/
def noChk : Chk := ⟨0, [], []⟩
theorem par_kind (bs : Bys) : (parC bs).1.kind < 256 := by
  have h : (opN 1 (bs, false)).1 < 256 := by
    have h1 := opT_len 1 (bs, false)
    have h2 := beV_lt (opT 1 (bs, false)).1
    have h3 : 256 ^ (opT 1 (bs, false)).1.length ≤ 256 ^ 1 := Nat.pow_le_pow_right (by decide) h1
    show beV (opT 1 (bs, false)).1 < 256
    omega
  unfold parC
  split
  · show 1 < 256
    decide
  · exact h
theorem opN_lt (w : Nat) (o : Opn) : (opN w o).1 < 256 ^ w := by
  have h1 := opT_len w o
  have h2 := beV_lt (opT w o).1
  have h3 : 256 ^ (opT w o).1.length ≤ 256 ^ w := Nat.pow_le_pow_right (by decide) h1
  exact Nat.lt_of_lt_of_le h2 h3
theorem opName_len (o : Opn) : (opName o).1.length ≤ 255 := by
  obtain ⟨r, bad⟩ := o
  unfold opName
  cases bad with
  | true => simp
  | false =>
    cases r with
    | nil => simp
    | cons c r =>
      simp only [if_neg Bool.false_ne_true]
      split
      · simp
      · rw [List.length_take]; have := c.toNat_lt; omega
theorem kidE_ok (nm : Bys) (d : Bool) (o : Opn) (h : nm.length ≤ 255) : KidOk (kidE nm d o).1 :=
  ⟨hash32_len _, opN_lt 1 _, opN_lt 4 _, h⟩
theorem kidF_ok (kind : Nat) (o : Opn) : KidOk (kidF kind o).1 := by
  unfold kidF
  split
  · exact kidE_ok _ _ _ (opName_len _)
  · exact kidE_ok _ _ _ (by simp)
theorem opT_rest (n : Nat) (o : Opn) : (opT n o).2.1.length ≤ o.1.length := by
  unfold opT
  split
  · exact Nat.le_refl _
  · split
    · exact Nat.le_refl _
    · rw [List.length_drop]; omega
theorem opName_rest (o : Opn) : (opName o).2.1.length ≤ o.1.length := by
  obtain ⟨r, bad⟩ := o
  unfold opName
  cases bad with
  | true => exact Nat.le_refl _
  | false =>
    cases r with
    | nil => exact Nat.le_refl _
    | cons c r =>
      simp only [if_neg Bool.false_ne_true]
      split
      · exact Nat.le_refl _
      · rw [List.length_drop, List.length_cons]; omega
theorem over_full {zs vs : List Value} (h : zs.length = vs.length) : over zs 0 vs = vs := by
  unfold over
  rw [List.take_zero, List.nil_append, Nat.zero_add, List.drop_of_length_le (by omega), List.append_nil]
/-- A child whose first two fields are set. -/
def kid2 (nm : Bys) (d : Bool) : List Value := .string ⟨nm.toArray⟩ :: .bool d :: (bytesV (List.replicate 32 0) ++ [.int .u8 0, .int .u32 0])
theorem kid2_len (nm : Bys) (d : Bool) : (kid2 nm d).length = 36 := rfl
theorem okParts_one {n sz : Nat} {cs : Array Value} (h : cs.size = sz) (h2 : sz ≤ n) : okPartsB n [(0, sz, .agg cs)] = true := by
  simp [okPartsB, Value.cells, h, h2]
theorem build_one {zs cs : List Value} {k : Nat} (h : zs.length = cs.length) : buildL zs [(0, k, .agg cs.toArray)] = cs := over_full h
theorem kid_done (nm : Bys) (d : Bool) (h : Bys) (hh : h.length = 32) (ht s : Nat) : ((put (kid2 nm d) 2 (bytesV h)).toArray.setIfInBounds 34 (.int .u8 (ht : Int))).setIfInBounds 35 (.int .u32 (s : Int)) = (kidV ⟨nm, d, h, ht, s⟩).toArray := by
  have hl : (bytesV h).length = 32 := by rw [bytesV_length, hh]
  have e : put (kid2 nm d) 2 (bytesV h) = .string ⟨nm.toArray⟩ :: .bool d :: (bytesV h ++ [.int .u8 0, .int .u32 0]) := by
    unfold put
    rw [hl]; rfl
  rw [e, List.setIfInBounds_toArray, List.setIfInBounds_toArray]
  have e2 : ∀ (x y z : Value) (A : List Value), A.length = 32 → ((x :: y :: (A ++ [.int .u8 0, .int .u32 0])).set 34 z) = x :: y :: (A ++ [z, .int .u32 0]) := fun x y z A hA => by
    rw [List.set_cons_succ, List.set_cons_succ, List.set_append_right _ _ (by omega), hA]; rfl
  have e3 : ∀ (x y z u : Value) (A : List Value), A.length = 32 → ((x :: y :: (A ++ [z, .int .u32 0])).set 35 u) = x :: y :: (A ++ [z, u]) := fun x y z u A hA => by
    rw [List.set_cons_succ, List.set_cons_succ, List.set_append_right _ _ (by omega), hA]; rfl
  rw [e2 _ _ _ _ hl, e3 _ _ _ _ _ hl, kidV]
  simp only [hash32_id hh]
structure TS where
  i : Nat
  p : Option Addr × Nat
  st : Opn
  ks : List CKid
  o : Option (Nat × Nat)
theorem ctake_calls (a : Option Addr) (n c : Nat) (bs : Bys) (hn : bs.length = n) (hz : n ≤ 100000000) (w : World) (hr : Rd w a (bytesV bs)) :
    Ct Tryz.prog 30 #[.slice a n c] w none' (fun o : Option (Nat × Nat) => .tuple #[.agg #[.int .u8 ((chkF bs).getD noChk).kind, .string ⟨((chkF bs).getD noChk).data.toArray⟩, slV o ((chkF bs).getD noChk).kids.length], .int .i64 ((if (chkF bs).isSome then 0 else 3 : Nat) : Int)]) (fun _ => True)
      (fun o => [own 85 36 o ((chkF bs).getD noChk).kids.length (rowsV kidV ((chkF bs).getD noChk).kids)]) := by
  refine ct_of [_] Tryz.func30 rfl rfl ?_
  simp only [argSlots]
  (repeat first | with_reducible (first | apply t_seq | apply t_region | apply t_block | apply t_ret | apply t_skip | apply t_exit | apply l_nil | apply x_then | apply x_pass_exit | apply x_pass_ret | apply x_block_ret | apply x_block_normal | apply x_block_here | apply x_block_out rfl) | refine lAv rfl ?_ | refine l_no rfl ?_ | refine tT rfl rfl ?_ | refine tF rfl rfl ?_ | refine lT rfl rfl ?_ | refine lF rfl rfl ?_)
  refine l_alloca rfl rfl fun b2 hb2 => ?_
  (repeat first | with_reducible (first | apply t_seq | apply t_region | apply t_block | apply t_ret | apply t_skip | apply t_exit | apply l_nil | apply x_then | apply x_pass_exit | apply x_pass_ret | apply x_block_ret | apply x_block_normal | apply x_block_here | apply x_block_out rfl) | refine lAv rfl ?_ | refine l_no rfl ?_ | refine tT rfl rfl ?_ | refine tF rfl rfl ?_ | refine lT rfl rfl ?_ | refine lF rfl rfl ?_)
  refine l_ctg rfl rfl (by kernel_rfl) rfl (fun w1 hw1 => Of_calls a n c bs hn (by omega) w1 (hr.keep hw1)) fun x hx => ?_
  obtain ⟨b, oD⟩ := x
  simp only at hx ⊢
  (repeat first | with_reducible (first | apply t_seq | apply t_region | apply t_block | apply t_ret | apply t_skip | apply t_exit | apply l_nil | apply x_then | apply x_pass_exit | apply x_pass_ret | apply x_block_ret | apply x_block_normal | apply x_block_here | apply x_block_out rfl) | refine lAv rfl ?_ | refine l_no rfl ?_ | refine tT rfl rfl ?_ | refine tF rfl rfl ?_ | refine lT rfl rfl ?_ | refine lF rfl rfl ?_)
  obtain ⟨K, hK⟩ : ∃ K, (opN 1 (bs, false)).1 = K := ⟨_, rfl⟩
  obtain ⟨st1, hst1⟩ : ∃ s, (opN 1 (bs, false)).2 = s := ⟨_, rfl⟩
  have h1 : opN 1 (bs, false) = (K, st1) := Prod.ext hK hst1
  have hK256 : K < 256 := by have := opN_lt 1 (bs, false); rw [hK] at this; exact this
  have hst1l : st1.1.length ≤ n := by have := opT_rest 1 (bs, false); rw [← hst1]; rw [hn] at this; exact this
  have hsD : (own 5 1 oD n (bytesV bs)).Stable none' := own_stable _ _ _ _ _ _
  generalize own 5 1 oD n (bytesV bs) = D at hx hsD
  refine l_opg rfl (o_cu (pre := [opI b (slA oD) (slC oD) (bs, false), D]) rfl (by kernel_rfl) rfl (by simp [opI_stable, hsD]) (fun w1 hw1 hh1 ha1 => oTakeE K st1 h1 hsD hx (.inl rfl) (by simp only; omega) hh1 ha1)) fun ⟨y1, hy1⟩ => ?_
  (repeat first | with_reducible (first | apply t_seq | apply t_region | apply t_block | apply t_ret | apply t_skip | apply t_exit | apply l_nil | apply x_then | apply x_pass_exit | apply x_pass_ret | apply x_block_ret | apply x_block_normal | apply x_block_here | apply x_block_out rfl) | refine lAv rfl ?_ | refine l_no rfl ?_ | refine tT rfl rfl ?_ | refine tF rfl rfl ?_ | refine lT rfl rfl ?_ | refine lF rfl rfl ?_)
  refine l_say 14 _ (.agg #[.int .u8 K, .string ⟨#[]⟩, .slice none 0 0]) rfl rfl ?_
  refine l_alloca rfl rfl fun b5 hb5 => ?_
  refine l_op rfl (o_storea rfl rfl rfl rfl rfl rfl) fun _ => ?_
  refine l_pick [1, 2, 0, 3] rfl rfl ?_
  (repeat first | with_reducible (first | apply t_seq | apply t_region | apply t_block | apply t_ret | apply t_skip | apply t_exit | apply l_nil | apply x_then | apply x_pass_exit | apply x_pass_ret | apply x_block_ret | apply x_block_normal | apply x_block_here | apply x_block_out rfl) | refine lAv rfl ?_ | refine l_no rfl ?_ | refine tT rfl rfl ?_ | refine tF rfl rfl ?_ | refine lT rfl rfl ?_ | refine lF rfl rfl ?_)
  obtain ⟨C, stF, hpar⟩ : ∃ C s, parC bs = (C, s) := ⟨_, _, rfl⟩
  refine t_join (w0 := w) (F := none') (α := (Option Addr × Nat) × Option (Nat × Nat)) (fun _ => [(0, .slice a n c), (2, .pointer (some ⟨b2, 0, none⟩)), (4, .pointer (some ⟨b, 0, none⟩)), (5, .pointer (some ⟨b5, 0, none⟩))]) (fun z => OpOk D z.1.1 z.1.2 stF.1 ∧ C.kind < 256 ∧ C.data.length ≤ n ∧ C.kids.length ≤ 255 ∧ ∀ k ∈ C.kids, KidOk k)
    (fun z => [opI b z.1.1 z.1.2 stF, D, pt b5 (.cells #[.int .u8 C.kind, .string ⟨C.data.toArray⟩, slV z.2 C.kids.length] 82 (0, 0)), own 85 36 z.2 C.kids.length (rowsV kidV C.kids), pt b2 (.cells #[.int .u8 0, .string ⟨#[]⟩, .slice none 0 0] 82 (0, 0))]) ?_ fun ⟨⟨a5, c5⟩, o5⟩ ⟨hO, hC1, hC2, hC3, hC4⟩ => ?_
  · by_cases k1 : K = 1
    · have hp2 : parC bs = (⟨1, st1.1, []⟩, ([], st1.2)) := by
        unfold parC; rw [if_pos (by rw [hK]; exact k1), hst1]
      have hgood : st1.2 = false := by
        cases bs with
        | nil => rw [opN_nil] at h1; have := congrArg Prod.fst h1; simp only at this; omega
        | cons x r => rw [opN_one] at h1; have := congrArg Prod.snd h1; simp only at this; rw [← this]
      rw [hp2] at hpar
      obtain ⟨rfl, rfl⟩ := Prod.mk.inj hpar.symm
      obtain ⟨r1, bad1⟩ := st1
      simp only at hgood
      subst hgood
      subst k1
      (repeat first | with_reducible (first | apply t_seq | apply t_region | apply t_block | apply t_ret | apply t_skip | apply t_exit | apply l_nil | apply x_then | apply x_pass_exit | apply x_pass_ret | apply x_block_ret | apply x_block_normal | apply x_block_here | apply x_block_out rfl) | refine lAv rfl ?_ | refine l_no rfl ?_ | refine tT rfl rfl ?_ | refine tF rfl rfl ?_ | refine lT rfl rfl ?_ | refine lF rfl rfl ?_)
      refine l_opg rfl (o_pure rfl (by kernel_rfl) rfl (fun w1 hw1 => left_calls b y1.1 y1.2 (r1, false) w1 ⟨(hw1.item (opI b y1.1 y1.2 (r1, false)) (by simp)).1, opI_stable _ _ _ _, fun k hk => ((hw1.item (opI b y1.1 y1.2 (r1, false)) (by simp)).2.2 k hk).1⟩)) fun _ => ?_
      refine l_opg rfl (o_cu (pre := [opI b y1.1 y1.2 (r1, false), D]) rfl (by kernel_rfl) rfl (by simp [opI_stable, hsD]) (fun w1 hw1 hh1 ha1 => oTextE (n := r1.length) r1 ([], false) (by rw [opT_long (Nat.le_refl _), List.take_length, List.drop_length]) hsD hy1 (by simp only at hst1l ⊢; omega) hh1 ha1)) fun ⟨y2, hy2⟩ => ?_
      (repeat first | with_reducible (first | apply t_seq | apply t_region | apply t_block | apply t_ret | apply t_skip | apply t_exit | apply l_nil | apply x_then | apply x_pass_exit | apply x_pass_ret | apply x_block_ret | apply x_block_normal | apply x_block_here | apply x_block_out rfl) | refine lAv rfl ?_ | refine l_no rfl ?_ | refine tT rfl rfl ?_ | refine tF rfl rfl ?_ | refine lT rfl rfl ?_ | refine lF rfl rfl ?_)
      refine l_op rfl (ho_perm (bring2 _ _ _ _) (o_store1 rfl rfl rfl rfl rfl rfl (by simp))) fun _ => ?_
      (repeat first | with_reducible (first | apply t_seq | apply t_region | apply t_block | apply t_ret | apply t_skip | apply t_exit | apply l_nil | apply x_then | apply x_pass_exit | apply x_pass_ret | apply x_block_ret | apply x_block_normal | apply x_block_here | apply x_block_out rfl) | refine lAv rfl ?_ | refine l_no rfl ?_ | refine tT rfl rfl ?_ | refine tF rfl rfl ?_ | refine lT rfl rfl ?_ | refine lF rfl rfl ?_)
      refine x_join (y2, none) ⟨rfl, rfl, rfl, rfl, trivial⟩ ⟨hy2, (show 1 < 256 by decide), hst1l, Nat.zero_le _, fun _ h => nomatch h⟩ (fun w' hw' => ?_)
      exact (hp_nil1 85 36 hw').pick [2, 3, 1, 0, 4] rfl rfl
    · obtain ⟨n0, hn0⟩ : ∃ K, (opN 1 st1).1 = K := ⟨_, rfl⟩
      obtain ⟨stA, hstA⟩ : ∃ s, (opN 1 st1).2 = s := ⟨_, rfl⟩
      have hA : opN 1 st1 = (n0, stA) := Prod.ext hn0 hstA
      have hn256 : n0 < 256 := by have := opN_lt 1 st1; rw [hn0] at this; exact this
      have hstAl : stA.1.length ≤ n := by have := opT_rest 1 st1; rw [← hstA]; exact Nat.le_trans this hst1l
      have hp2 : parC bs = (⟨K, [], (kidsF K n0 stA).1⟩, (kidsF K n0 stA).2) := by
        unfold parC; rw [if_neg (by rw [hK]; exact k1), hK, hst1, hn0, hstA]
      rw [hp2] at hpar
      obtain ⟨rfl, rfl⟩ := Prod.mk.inj hpar.symm
      (repeat first | with_reducible (first | apply t_seq | apply t_region | apply t_block | apply t_ret | apply t_skip | apply t_exit | apply l_nil | apply x_then | apply x_pass_exit | apply x_pass_ret | apply x_block_ret | apply x_block_normal | apply x_block_here | apply x_block_out rfl) | refine lAv rfl ?_ | refine l_no rfl ?_ | refine tT rfl rfl ?_ | refine tF rfl rfl ?_ | refine lT rfl rfl ?_ | refine lF rfl rfl ?_)
      refine l_opg rfl (o_cu (pre := [opI b y1.1 y1.2 st1, D]) rfl (by kernel_rfl) rfl (by simp [opI_stable, hsD]) (fun w1 hw1 hh1 ha1 => oTakeE n0 stA hA hsD hy1 (.inl rfl) (by omega) hh1 ha1)) fun ⟨y2, hy2⟩ => ?_
      (repeat first | with_reducible (first | apply t_seq | apply t_region | apply t_block | apply t_ret | apply t_skip | apply t_exit | apply l_nil | apply x_then | apply x_pass_exit | apply x_pass_ret | apply x_block_ret | apply x_block_normal | apply x_block_here | apply x_block_out rfl) | refine lAv rfl ?_ | refine l_no rfl ?_ | refine tT rfl rfl ?_ | refine tF rfl rfl ?_ | refine lT rfl rfl ?_ | refine lF rfl rfl ?_)
      refine t_for (α := TS) (fun y => [(0, .slice a n c), (2, .pointer (some ⟨b2, 0, none⟩)), (4, .pointer (some ⟨b, 0, none⟩)), (5, .pointer (some ⟨b5, 0, none⟩)), (24, .int .u64 n0), (25, .int .u64 y.i)])
        (fun y => y.i ≤ n0 ∧ y.ks.length = y.i ∧ OpOk D y.p.1 y.p.2 y.st.1 ∧ y.st.1.length ≤ n ∧ (∀ k ∈ y.ks, KidOk k) ∧ kidsF K n0 stA = (y.ks ++ (kidsF K (n0 - y.i) y.st).1, (kidsF K (n0 - y.i) y.st).2))
        (fun y => [opI b y.p.1 y.p.2 y.st, D, pt b5 (.cells #[.int .u8 K, .string ⟨#[]⟩, slV y.o y.i] 82 (0, 0)), own 85 36 y.o y.i (rowsV kidV y.ks), pt b2 (.cells #[.int .u8 0, .string ⟨#[]⟩, .slice none 0 0] 82 (0, 0))]) (fun y => n0 - y.i) ⟨0, y2, stA, [], none⟩ ⟨rfl, rfl, rfl, rfl, rfl, rfl, trivial⟩ ⟨Nat.zero_le _, rfl, hy2, hstAl, (fun _ h => nomatch h), rfl⟩
        (fun w' hw' => (hp_nil1 85 36 hw').pick [1, 2, 3, 0, 4] rfl rfl) fun ⟨i, pp, st, ks, o⟩ ⟨g1, g2, g3, g4, g5, g6⟩ => ?_
      simp only at g1 g2 g3 g4 g5 g6 ⊢
      by_cases hi2 : i < n0
      · obtain ⟨m, hm⟩ : ∃ m, n0 - i = m + 1 := ⟨n0 - i - 1, by omega⟩
        have hm2 : n0 - (i + 1) = m := by omega
        obtain ⟨nm, d, st', hkE, hK3, hnm⟩ : ∃ nm d st', kidF K st = kidE nm d st' ∧ ((K = 3 ∧ nm = (opName (opN 1 st).2).1 ∧ d = decide ((opN 1 st).1 = 1) ∧ st' = (opName (opN 1 st).2).2) ∨ (K ≠ 3 ∧ nm = [] ∧ d = false ∧ st' = st)) ∧ st'.1.length ≤ n := by
          by_cases k3 : K = 3
          · refine ⟨_, _, _, by unfold kidF; rw [if_pos k3], .inl ⟨k3, rfl, rfl, rfl⟩, ?_⟩
            exact Nat.le_trans (opName_rest _) (Nat.le_trans (opT_rest 1 st) g4)
          · exact ⟨[], false, st, by unfold kidF; rw [if_neg k3], .inr ⟨k3, rfl, rfl, rfl⟩, g4⟩
        rw [hm, kidsF, hkE] at g6
        (repeat first | with_reducible (first | apply t_seq | apply t_region | apply t_block | apply t_ret | apply t_skip | apply t_exit | apply l_nil | apply x_then | apply x_pass_exit | apply x_pass_ret | apply x_block_ret | apply x_block_normal | apply x_block_here | apply x_block_out rfl) | refine lAv rfl ?_ | refine l_no rfl ?_ | refine tT rfl rfl ?_ | refine tF rfl rfl ?_ | refine lT rfl rfl ?_ | refine lF rfl rfl ?_)
        refine l_alloca rfl rfl fun b6 hb6 => ?_
        refine l_op rfl (o_storea rfl rfl rfl rfl rfl rfl) fun _ => ?_
        (repeat first | with_reducible (first | apply t_seq | apply t_region | apply t_block | apply t_ret | apply t_skip | apply t_exit | apply l_nil | apply x_then | apply x_pass_exit | apply x_pass_ret | apply x_block_ret | apply x_block_normal | apply x_block_here | apply x_block_out rfl) | refine lAv rfl ?_ | refine l_no rfl ?_ | refine tT rfl rfl ?_ | refine tF rfl rfl ?_ | refine lT rfl rfl ?_ | refine lF rfl rfl ?_)
        refine t_pick (m' := [opI b pp.1 pp.2 st, D, pt b6 (.cells (kid2 [] false).toArray 85 (0, 0)), pt b5 (.cells #[.int .u8 K, .string ⟨#[]⟩, slV o i] 82 (0, 0)), own 85 36 o i (rowsV kidV ks), pt b2 (.cells #[.int .u8 0, .string ⟨#[]⟩, .slice none 0 0] 82 (0, 0))]) [1, 2, 0, 3, 4, 5] rfl rfl ?_
        refine t_join (w0 := w) (F := none') (α := Option Addr × Nat) (fun _ => [(0, .slice a n c), (2, .pointer (some ⟨b2, 0, none⟩)), (4, .pointer (some ⟨b, 0, none⟩)), (5, .pointer (some ⟨b5, 0, none⟩)), (6, .pointer (some ⟨b6, 0, none⟩)), (24, .int .u64 n0), (25, .int .u64 i)]) (fun z => OpOk D z.1 z.2 st'.1)
          (fun z => [opI b z.1 z.2 st', D, pt b6 (.cells (kid2 nm d).toArray 85 (0, 0)), pt b5 (.cells #[.int .u8 K, .string ⟨#[]⟩, slV o i] 82 (0, 0)), own 85 36 o i (rowsV kidV ks), pt b2 (.cells #[.int .u8 0, .string ⟨#[]⟩, .slice none 0 0] 82 (0, 0))]) ?_ fun z hz2 => ?_
        · rcases hK3 with ⟨k3, rfl, rfl, rfl⟩ | ⟨k3, rfl, rfl, rfl⟩
          · obtain ⟨v1, hv1⟩ : ∃ K, (opN 1 st).1 = K := ⟨_, rfl⟩
            obtain ⟨sB, hsB⟩ : ∃ s, (opN 1 st).2 = s := ⟨_, rfl⟩
            have hB : opN 1 st = (v1, sB) := Prod.ext hv1 hsB
            have hsBl : sB.1.length ≤ n := by have := opT_rest 1 st; rw [← hsB]; exact Nat.le_trans this g4
            rw [hv1, hsB]
            (repeat first | with_reducible (first | apply t_seq | apply t_region | apply t_block | apply t_ret | apply t_skip | apply t_exit | apply l_nil | apply x_then | apply x_pass_exit | apply x_pass_ret | apply x_block_ret | apply x_block_normal | apply x_block_here | apply x_block_out rfl) | refine lAv rfl ?_ | refine l_no rfl ?_ | refine tT rfl rfl ?_ | refine tF rfl rfl ?_ | refine lT rfl rfl ?_ | refine lF rfl rfl ?_)
            refine l_opg rfl (o_cu (pre := [opI b pp.1 pp.2 st, D]) rfl (by kernel_rfl) rfl (by simp [opI_stable, hsD]) (fun w1 hw1 hh1 ha1 => oTakeE v1 sB hB hsD g3 (.inl rfl) (by omega) hh1 ha1)) fun ⟨y3, hy3⟩ => ?_
            (repeat first | with_reducible (first | apply t_seq | apply t_region | apply t_block | apply t_ret | apply t_skip | apply t_exit | apply l_nil | apply x_then | apply x_pass_exit | apply x_pass_ret | apply x_block_ret | apply x_block_normal | apply x_block_here | apply x_block_out rfl) | refine lAv rfl ?_ | refine l_no rfl ?_ | refine tT rfl rfl ?_ | refine tF rfl rfl ?_ | refine lT rfl rfl ?_ | refine lF rfl rfl ?_)
            refine l_say 33 _ (.bool (decide (v1 = 1))) rfl (congrArg Value.bool (by by_cases h : v1 = 1 <;> simp [h]; omega)) ?_
            (repeat first | with_reducible (first | apply t_seq | apply t_region | apply t_block | apply t_ret | apply t_skip | apply t_exit | apply l_nil | apply x_then | apply x_pass_exit | apply x_pass_ret | apply x_block_ret | apply x_block_normal | apply x_block_here | apply x_block_out rfl) | refine lAv rfl ?_ | refine l_no rfl ?_ | refine tT rfl rfl ?_ | refine tF rfl rfl ?_ | refine lT rfl rfl ?_ | refine lF rfl rfl ?_)
            refine l_op rfl (ho_perm (bring2 _ _ _ _) (o_store1 rfl rfl rfl rfl rfl rfl (by rw [List.size_toArray]; decide))) fun _ => ?_
            (repeat first | with_reducible (first | apply t_seq | apply t_region | apply t_block | apply t_ret | apply t_skip | apply t_exit | apply l_nil | apply x_then | apply x_pass_exit | apply x_pass_ret | apply x_block_ret | apply x_block_normal | apply x_block_here | apply x_block_out rfl) | refine lAv rfl ?_ | refine l_no rfl ?_ | refine tT rfl rfl ?_ | refine tF rfl rfl ?_ | refine lT rfl rfl ?_ | refine lF rfl rfl ?_)
            refine l_pick [1, 2, 0, 3, 4, 5] rfl rfl ?_
            refine l_opg rfl (o_cu (pre := [opI b y3.1 y3.2 sB, D]) rfl (by kernel_rfl) rfl (by simp [opI_stable, hsD]) (fun w1 hw1 hh1 ha1 => oName_calls b y3.1 y3.2 sB D hsD hy3 (by omega) w1 hh1 ha1)) fun ⟨y4, hy4⟩ => ?_
            (repeat first | with_reducible (first | apply t_seq | apply t_region | apply t_block | apply t_ret | apply t_skip | apply t_exit | apply l_nil | apply x_then | apply x_pass_exit | apply x_pass_ret | apply x_block_ret | apply x_block_normal | apply x_block_here | apply x_block_out rfl) | refine lAv rfl ?_ | refine l_no rfl ?_ | refine tT rfl rfl ?_ | refine tF rfl rfl ?_ | refine lT rfl rfl ?_ | refine lF rfl rfl ?_)
            refine l_op rfl (ho_perm (bring2 _ _ _ _) (o_store1 rfl rfl rfl rfl rfl rfl (by rw [Array.size_setIfInBounds, List.size_toArray]; decide))) fun _ => ?_
            (repeat first | with_reducible (first | apply t_seq | apply t_region | apply t_block | apply t_ret | apply t_skip | apply t_exit | apply l_nil | apply x_then | apply x_pass_exit | apply x_pass_ret | apply x_block_ret | apply x_block_normal | apply x_block_here | apply x_block_out rfl) | refine lAv rfl ?_ | refine l_no rfl ?_ | refine tT rfl rfl ?_ | refine tF rfl rfl ?_ | refine lT rfl rfl ?_ | refine lF rfl rfl ?_)
            exact x_join y4 ⟨rfl, rfl, rfl, rfl, rfl, rfl, rfl, trivial⟩ hy4 (fun w' hw' => hw'.pick [1, 2, 0, 3, 4, 5] rfl rfl)
          · (repeat first | with_reducible (first | apply t_seq | apply t_region | apply t_block | apply t_ret | apply t_skip | apply t_exit | apply l_nil | apply x_then | apply x_pass_exit | apply x_pass_ret | apply x_block_ret | apply x_block_normal | apply x_block_here | apply x_block_out rfl) | refine lAv rfl ?_ | refine l_no rfl ?_ | refine tT rfl rfl ?_ | refine tF rfl rfl ?_ | refine lT rfl rfl ?_ | refine lF rfl rfl ?_)
            exact x_join pp ⟨rfl, rfl, rfl, rfl, rfl, rfl, rfl, trivial⟩ g3 (fun w' hw' => hw')
        · obtain ⟨t, sH, hH⟩ : ∃ t s, opT 32 st' = (t, s) := ⟨_, _, rfl⟩
          obtain ⟨vh, s1, hv1⟩ : ∃ t s, opN 1 sH = (t, s) := ⟨_, _, rfl⟩
          obtain ⟨vs, s4, hv4⟩ : ∃ t s, opN 4 s1 = (t, s) := ⟨_, _, rfl⟩
          have hsHl : sH.1.length ≤ n := by have := opT_rest 32 st'; rw [hH] at this; exact Nat.le_trans this hnm
          have hs1l : s1.1.length ≤ n := by have := opT_rest 1 sH; have e : (opT 1 sH).2 = s1 := congrArg Prod.snd hv1; rw [e] at this; omega
          have hs4l : s4.1.length ≤ n := by have := opT_rest 4 s1; have e : (opT 4 s1).2 = s4 := congrArg Prod.snd hv4; rw [e] at this; omega
          have hvh : vh < 256 := by have := opN_lt 1 sH; rw [hv1] at this; exact this
          have hvs : vs < 4294967296 := by have := opN_lt 4 s1; rw [hv4] at this; exact this
          have hkk : kidE nm d st' = (⟨nm, d, hash32 t, vh, vs⟩, s4) := by
            unfold kidE; rw [hH]; simp only; rw [hv1]; simp only; rw [hv4]
          have hkok : KidOk ⟨nm, d, hash32 t, vh, vs⟩ := by have := kidF_ok K st; rw [hkE, hkk] at this; exact this
          rw [hkk] at g6
          have hpl : (put (kid2 nm d) 2 (bytesV (hash32 t))).length = 36 := by rw [put_length (by rw [bytesV_length, hash32_len, kid2_len]; decide)]; rfl
          have hdone := kid_done nm d (hash32 t) (hash32_len t) vh vs
          (repeat first | with_reducible (first | apply t_seq | apply t_region | apply t_block | apply t_ret | apply t_skip | apply t_exit | apply l_nil | apply x_then | apply x_pass_exit | apply x_pass_ret | apply x_block_ret | apply x_block_normal | apply x_block_here | apply x_block_out rfl) | refine lAv rfl ?_ | refine l_no rfl ?_ | refine tT rfl rfl ?_ | refine tF rfl rfl ?_ | refine lT rfl rfl ?_ | refine lF rfl rfl ?_)
          refine l_opg rfl (o_cu (pre := [opI b z.1 z.2 st', D]) rfl (by kernel_rfl) rfl (by simp [opI_stable, hsD]) (fun w1 hw1 hh1 ha1 => oHashE t sH hH hsD hz2 (by omega) hh1 ha1)) fun ⟨y3, hy3⟩ => ?_
          (repeat first | with_reducible (first | apply t_seq | apply t_region | apply t_block | apply t_ret | apply t_skip | apply t_exit | apply l_nil | apply x_then | apply x_pass_exit | apply x_pass_ret | apply x_block_ret | apply x_block_normal | apply x_block_here | apply x_block_out rfl) | refine lAv rfl ?_ | refine l_no rfl ?_ | refine tT rfl rfl ?_ | refine tF rfl rfl ?_ | refine lT rfl rfl ?_ | refine lF rfl rfl ?_)
          refine l_opg rfl (o_cu (pre := [opI b y3.1 y3.2 sH, D]) rfl (by kernel_rfl) rfl (by simp [opI_stable, hsD]) (fun w1 hw1 hh1 ha1 => oTakeE vh s1 hv1 hsD hy3 (.inl rfl) (by omega) hh1 ha1)) fun ⟨y4, hy4⟩ => ?_
          (repeat first | with_reducible (first | apply t_seq | apply t_region | apply t_block | apply t_ret | apply t_skip | apply t_exit | apply l_nil | apply x_then | apply x_pass_exit | apply x_pass_ret | apply x_block_ret | apply x_block_normal | apply x_block_here | apply x_block_out rfl) | refine lAv rfl ?_ | refine l_no rfl ?_ | refine tT rfl rfl ?_ | refine tF rfl rfl ?_ | refine lT rfl rfl ?_ | refine lF rfl rfl ?_)
          refine l_opg rfl (o_cu (pre := [opI b y4.1 y4.2 s1, D]) rfl (by kernel_rfl) rfl (by simp [opI_stable, hsD]) (fun w1 hw1 hh1 ha1 => oTakeE vs s4 hv4 hsD hy4 (.inr (.inr rfl)) (by omega) hh1 ha1)) fun ⟨y5, hy5⟩ => ?_
          (repeat first | with_reducible (first | apply t_seq | apply t_region | apply t_block | apply t_ret | apply t_skip | apply t_exit | apply l_nil | apply x_then | apply x_pass_exit | apply x_pass_ret | apply x_block_ret | apply x_block_normal | apply x_block_here | apply x_block_out rfl) | refine lAv rfl ?_ | refine l_no rfl ?_ | refine tT rfl rfl ?_ | refine tF rfl rfl ?_ | refine lT rfl rfl ?_ | refine lF rfl rfl ?_)
          refine l_op rfl (ho_perm (bring2 _ _ _ _) (o_storerE (cs := kid2 nm d) (V := bytesV (hash32 t)) rfl rfl rfl rfl (by rw [bytesV_length, hash32_len]; rfl) (bytesV_one _) (by rw [bytesV_length, hash32_len, kid2_len]; decide))) fun _ => ?_
          (repeat first | with_reducible (first | apply t_seq | apply t_region | apply t_block | apply t_ret | apply t_skip | apply t_exit | apply l_nil | apply x_then | apply x_pass_exit | apply x_pass_ret | apply x_block_ret | apply x_block_normal | apply x_block_here | apply x_block_out rfl) | refine lAv rfl ?_ | refine l_no rfl ?_ | refine tT rfl rfl ?_ | refine tF rfl rfl ?_ | refine lT rfl rfl ?_ | refine lF rfl rfl ?_)
          refine l_op rfl (o_store1 rfl rfl rfl rfl rfl rfl (by rw [List.size_toArray, hpl]; decide)) fun _ => ?_
          (repeat first | with_reducible (first | apply t_seq | apply t_region | apply t_block | apply t_ret | apply t_skip | apply t_exit | apply l_nil | apply x_then | apply x_pass_exit | apply x_pass_ret | apply x_block_ret | apply x_block_normal | apply x_block_here | apply x_block_out rfl) | refine lAv rfl ?_ | refine l_no rfl ?_ | refine tT rfl rfl ?_ | refine tF rfl rfl ?_ | refine lT rfl rfl ?_ | refine lF rfl rfl ?_)
          refine l_op rfl (o_store1 rfl rfl rfl rfl rfl rfl (by rw [Array.size_setIfInBounds, List.size_toArray, hpl]; decide)) fun _ => ?_
          rw [hdone]
          (repeat first | with_reducible (first | apply t_seq | apply t_region | apply t_block | apply t_ret | apply t_skip | apply t_exit | apply l_nil | apply x_then | apply x_pass_exit | apply x_pass_ret | apply x_block_ret | apply x_block_normal | apply x_block_here | apply x_block_out rfl) | refine lAv rfl ?_ | refine l_no rfl ?_ | refine tT rfl rfl ?_ | refine tF rfl rfl ?_ | refine lT rfl rfl ?_ | refine lF rfl rfl ?_)
          generalize hkk2 : (⟨nm, d, hash32 t, vh, vs⟩ : CKid) = kk at hkok g6
          refine l_w rfl (v_loada rfl (by rw [List.size_toArray, kidV_len]; rfl) (.head _)) ?_
          refine l_op rfl (o_buildslice (L := [(0, 36, .agg (kidV kk).toArray)]) rfl rfl rfl rfl rfl (okParts_one (by rw [List.size_toArray, kidV_len]) (by decide))) fun ⟨bq, hbq⟩ => ?_
          (repeat first | with_reducible (first | apply t_seq | apply t_region | apply t_block | apply t_ret | apply t_skip | apply t_exit | apply l_nil | apply x_then | apply x_pass_exit | apply x_pass_ret | apply x_block_ret | apply x_block_normal | apply x_block_here | apply x_block_out rfl) | refine lAv rfl ?_ | refine l_no rfl ?_ | refine tT rfl rfl ?_ | refine tF rfl rfl ?_ | refine lT rfl rfl ?_ | refine lF rfl rfl ?_)
          refine l_op rfl (ho_perm (bring5 _ _ _ _ _ _ _) (o_append (news := kidV kk) rfl rfl rfl rfl rfl rfl (by rw [kidV_len]) (kid_one kk) (by omega) (fun w' hw' j v hj => by rw [add_at, Nat.zero_add]; refine own_rd (hw'.item _ (.tail _ (.head _))).1 j v ?_; rw [build_one (by rw [zerosL, List.length_map, List.length_range, kidV_len])]; exact hj))) fun o' => ?_
          (repeat first | with_reducible (first | apply t_seq | apply t_region | apply t_block | apply t_ret | apply t_skip | apply t_exit | apply l_nil | apply x_then | apply x_pass_exit | apply x_pass_ret | apply x_block_ret | apply x_block_normal | apply x_block_here | apply x_block_out rfl) | refine lAv rfl ?_ | refine l_no rfl ?_ | refine tT rfl rfl ?_ | refine tF rfl rfl ?_ | refine lT rfl rfl ?_ | refine lF rfl rfl ?_)
          refine l_op rfl (ho_perm (bring5 _ _ _ _ _ _ _) (o_store1 rfl rfl rfl rfl (slV_cells _ _) (slV_one _ _) (by simp))) fun _ => ?_
          (repeat first | with_reducible (first | apply t_seq | apply t_region | apply t_block | apply t_ret | apply t_skip | apply t_exit | apply l_nil | apply x_then | apply x_pass_exit | apply x_pass_ret | apply x_block_ret | apply x_block_normal | apply x_block_here | apply x_block_out rfl) | refine lAv rfl ?_ | refine l_no rfl ?_ | refine tT rfl rfl ?_ | refine tF rfl rfl ?_ | refine lT rfl rfl ?_ | refine lF rfl rfl ?_)
          refine x_round ⟨i + 1, y5, s4, ks ++ [kk], o'⟩ ⟨rfl, rfl, rfl, rfl, rfl, rfl, trivial⟩ ⟨hi2, by simp only [List.length_append, List.length_singleton, g2], hy5, hs4l, fun q hq => ?_, ?_⟩ (fun w' hw' => ?_) (by simp only; omega)
          · rcases List.mem_append.1 hq with hq | hq
            · exact g5 q hq
            · rw [List.mem_singleton.1 hq]; exact hkok
          · simp only [hm2]
            rw [g6, List.append_assoc]; rfl
          · simp only [rowsV_append, rowsV_one]
            exact hw'.pick [4, 5, 0, 1, 6] rfl rfl
      · obtain rfl : i = n0 := by omega
        rw [Nat.sub_self] at g6
        have hks : kidsF K i stA = (ks, st) := by rw [g6]; simp [kidsF]
        (repeat first | with_reducible (first | apply t_seq | apply t_region | apply t_block | apply t_ret | apply t_skip | apply t_exit | apply l_nil | apply x_then | apply x_pass_exit | apply x_pass_ret | apply x_block_ret | apply x_block_normal | apply x_block_here | apply x_block_out rfl) | refine lAv rfl ?_ | refine l_no rfl ?_ | refine tT rfl rfl ?_ | refine tF rfl rfl ?_ | refine lT rfl rfl ?_ | refine lF rfl rfl ?_)
        simp only [hks]
        exact x_join (pp, o) ⟨rfl, rfl, rfl, rfl, trivial⟩ ⟨g3, hK256, Nat.zero_le _, (show ks.length ≤ 255 by omega), g5⟩ (fun w' hw' => by simp only [g2]; exact hw')
  · obtain ⟨kind, data, ks⟩ := C
    simp only at hC1 hC2 hC3 hC4 hO ⊢
    refine t_fact (fun w hw => (own_val (hw.item (own 85 36 o5 ks.length (rowsV kidV ks)) (by simp)).1)) fun ⟨hsl, hcap⟩ => ?_
    rw [hsl]
    have hres : chkF bs = if mayC ⟨kind, data, ks⟩ = true ∧ putC ⟨kind, data, ks⟩ = bs ∧ stF = ([], false) then some ⟨kind, data, ks⟩ else none := by
      unfold chkF; rw [hpar]
    (repeat first | with_reducible (first | apply t_seq | apply t_region | apply t_block | apply t_ret | apply t_skip | apply t_exit | apply l_nil | apply x_then | apply x_pass_exit | apply x_pass_ret | apply x_block_ret | apply x_block_normal | apply x_block_here | apply x_block_out rfl) | refine lAv rfl ?_ | refine l_no rfl ?_ | refine tT rfl rfl ?_ | refine tF rfl rfl ?_ | refine lT rfl rfl ?_ | refine lF rfl rfl ?_)
    refine l_opg rfl (o_ct rfl (by kernel_rfl) rfl (fun w1 hw1 => cput_calls kind data ks (slA o5) (slC o5) hC1 hC4 (by omega) (by omega) w1 (own_Rd (hw1.item (own 85 36 o5 ks.length (rowsV kidV ks)) (by simp)).1))) fun ⟨o6, _⟩ => ?_
    generalize hPB : (if mayC ⟨kind, data, ks⟩ = true then putC ⟨kind, data, ks⟩ else []) = PB
    generalize hE : (if mayC ⟨kind, data, ks⟩ = true then 0 else 2 : Nat) = E
    refine l_fact (fun w hw => (own_val (hw.item (own 5 1 o6 PB.length (bytesV PB)) (by simp)).1)) fun ⟨hsl6, hcap6⟩ => ?_
    rw [hsl6]
    (repeat first | with_reducible (first | apply t_seq | apply t_region | apply t_block | apply t_ret | apply t_skip | apply t_exit | apply l_nil | apply x_then | apply x_pass_exit | apply x_pass_ret | apply x_block_ret | apply x_block_normal | apply x_block_here | apply x_block_out rfl) | refine lAv rfl ?_ | refine l_no rfl ?_ | refine tT rfl rfl ?_ | refine tF rfl rfl ?_ | refine lT rfl rfl ?_ | refine lF rfl rfl ?_)
    refine l_opg rfl (o_pure rfl (by kernel_rfl) rfl (fun w1 hw1 => end_calls b a5 c5 stF w1 ⟨(hw1.item (opI b a5 c5 stF) (by simp)).1, opI_stable _ _ _ _, fun k hk => ((hw1.item (opI b a5 c5 stF) (by simp)).2.2 k hk).1⟩)) fun _ => ?_
    have hno : ¬ (mayC ⟨kind, data, ks⟩ = true ∧ putC ⟨kind, data, ks⟩ = bs ∧ stF = ([], false)) → chkF bs = none := fun h => by rw [hres, if_neg h]
    by_cases hF : stF = ([], false)
    · rw [if_pos hF]
      by_cases hm : mayC ⟨kind, data, ks⟩ = true
      · rw [if_pos hm] at hPB hE
        subst hE
        (repeat first | with_reducible (first | apply t_seq | apply t_region | apply t_block | apply t_ret | apply t_skip | apply t_exit | apply l_nil | apply x_then | apply x_pass_exit | apply x_pass_ret | apply x_block_ret | apply x_block_normal | apply x_block_here | apply x_block_out rfl) | refine lAv rfl ?_ | refine l_no rfl ?_ | refine tT rfl rfl ?_ | refine tF rfl rfl ?_ | refine lT rfl rfl ?_ | refine lF rfl rfl ?_)
        refine l_opg rfl (o_pure rfl (by kernel_rfl) rfl (fun w1 hw1 => equal_calls (slA o6) a PB.length n (slC o6) c PB bs rfl hn w1 (own_Rd (hw1.item (own 5 1 o6 PB.length (bytesV PB)) (by simp)).1) (hr.keep hw1))) fun _ => ?_
        by_cases hq : PB = bs
        · have hyes : chkF bs = some ⟨kind, data, ks⟩ := by rw [hres, if_pos ⟨hm, by rw [hPB]; exact hq, hF⟩]
          simp only [hyes, Option.getD_some, Option.isSome_some, if_true]
          (repeat first | with_reducible (first | apply t_seq | apply t_region | apply t_block | apply t_ret | apply t_skip | apply t_exit | apply l_nil | apply x_then | apply x_pass_exit | apply x_pass_ret | apply x_block_ret | apply x_block_normal | apply x_block_here | apply x_block_out rfl) | refine lAv rfl ?_ | refine l_no rfl ?_ | refine tT rfl rfl ?_ | refine tF rfl rfl ?_ | refine lT rfl rfl ?_ | refine lF rfl rfl ?_)
          refine l_op rfl (ho_perm (bring5 _ _ _ _ _ _ _) (o_storea rfl rfl rfl rfl rfl rfl)) fun _ => ?_
          (repeat first | with_reducible (first | apply t_seq | apply t_region | apply t_block | apply t_ret | apply t_skip | apply t_exit | apply l_nil | apply x_then | apply x_pass_exit | apply x_pass_ret | apply x_block_ret | apply x_block_normal | apply x_block_here | apply x_block_out rfl) | refine lAv rfl ?_ | refine l_no rfl ?_ | refine tT rfl rfl ?_ | refine tF rfl rfl ?_ | refine lT rfl rfl ?_ | refine lF rfl rfl ?_)
          rw [← hsl]
          exact x_ct2 o5 rfl ⟨_, rfl, loada_run rfl (.head _)⟩ rfl rfl trivial (.cons _ (.cons _ (.cons _ (.cons _ (.cons _ (.refl _)))))) (by simp [own_stable])
        · have hn0 := hno fun h => hq (by rw [← hPB]; exact h.2.1)
          simp only [hn0, Option.getD_none, Option.isSome_none, if_neg Bool.false_ne_true, noChk]
          (repeat first | with_reducible (first | apply t_seq | apply t_region | apply t_block | apply t_ret | apply t_skip | apply t_exit | apply l_nil | apply x_then | apply x_pass_exit | apply x_pass_ret | apply x_block_ret | apply x_block_normal | apply x_block_here | apply x_block_out rfl) | refine lAv rfl ?_ | refine l_no rfl ?_ | refine tT rfl rfl ?_ | refine tF rfl rfl ?_ | refine lT rfl rfl ?_ | refine lF rfl rfl ?_)
          refine l_op rfl (ho_perm (bring5 _ _ _ _ _ _ _) (o_storea rfl rfl rfl rfl rfl rfl)) fun _ => ?_
          (repeat first | with_reducible (first | apply t_seq | apply t_region | apply t_block | apply t_ret | apply t_skip | apply t_exit | apply l_nil | apply x_then | apply x_pass_exit | apply x_pass_ret | apply x_block_ret | apply x_block_normal | apply x_block_here | apply x_block_out rfl) | refine lAv rfl ?_ | refine l_no rfl ?_ | refine tT rfl rfl ?_ | refine tF rfl rfl ?_ | refine lT rfl rfl ?_ | refine lF rfl rfl ?_)
          refine x_imp (fun w hw => hp_nil1 85 36 hw) ?_
          exact x_ct2 none rfl ⟨_, rfl, loada_run rfl (.tail _ (.head _))⟩ rfl rfl trivial (.cons_cons _ (List.nil_sublist _)) (by simp [own_stable])
      · have hn0 := hno fun h => hm h.1
        rw [if_neg hm] at hPB hE
        subst hE
        simp only [hn0, Option.getD_none, Option.isSome_none, if_neg Bool.false_ne_true, noChk]
        (repeat first | with_reducible (first | apply t_seq | apply t_region | apply t_block | apply t_ret | apply t_skip | apply t_exit | apply l_nil | apply x_then | apply x_pass_exit | apply x_pass_ret | apply x_block_ret | apply x_block_normal | apply x_block_here | apply x_block_out rfl) | refine lAv rfl ?_ | refine l_no rfl ?_ | refine tT rfl rfl ?_ | refine tF rfl rfl ?_ | refine lT rfl rfl ?_ | refine lF rfl rfl ?_)
        refine l_op rfl (ho_perm (bring5 _ _ _ _ _ _ _) (o_storea rfl rfl rfl rfl rfl rfl)) fun _ => ?_
        (repeat first | with_reducible (first | apply t_seq | apply t_region | apply t_block | apply t_ret | apply t_skip | apply t_exit | apply l_nil | apply x_then | apply x_pass_exit | apply x_pass_ret | apply x_block_ret | apply x_block_normal | apply x_block_here | apply x_block_out rfl) | refine lAv rfl ?_ | refine l_no rfl ?_ | refine tT rfl rfl ?_ | refine tF rfl rfl ?_ | refine lT rfl rfl ?_ | refine lF rfl rfl ?_)
        refine x_imp (fun w hw => hp_nil1 85 36 hw) ?_
        exact x_ct2 none rfl ⟨_, rfl, loada_run rfl (.tail _ (.head _))⟩ rfl rfl trivial (.cons_cons _ (List.nil_sublist _)) (by simp [own_stable])
    · rw [if_neg hF]
      have hn0 := hno fun h => hF h.2.2
      simp only [hn0, Option.getD_none, Option.isSome_none, if_neg Bool.false_ne_true, noChk]
      (repeat first | with_reducible (first | apply t_seq | apply t_region | apply t_block | apply t_ret | apply t_skip | apply t_exit | apply l_nil | apply x_then | apply x_pass_exit | apply x_pass_ret | apply x_block_ret | apply x_block_normal | apply x_block_here | apply x_block_out rfl) | refine lAv rfl ?_ | refine l_no rfl ?_ | refine tT rfl rfl ?_ | refine tF rfl rfl ?_ | refine lT rfl rfl ?_ | refine lF rfl rfl ?_)
      refine l_op rfl (ho_perm (bring5 _ _ _ _ _ _ _) (o_storea rfl rfl rfl rfl rfl rfl)) fun _ => ?_
      (repeat first | with_reducible (first | apply t_seq | apply t_region | apply t_block | apply t_ret | apply t_skip | apply t_exit | apply l_nil | apply x_then | apply x_pass_exit | apply x_pass_ret | apply x_block_ret | apply x_block_normal | apply x_block_here | apply x_block_out rfl) | refine lAv rfl ?_ | refine l_no rfl ?_ | refine tT rfl rfl ?_ | refine tF rfl rfl ?_ | refine lT rfl rfl ?_ | refine lF rfl rfl ?_)
      refine x_imp (fun w hw => hp_nil1 85 36 hw) ?_
      exact x_ct2 none rfl ⟨_, rfl, loada_run rfl (.tail _ (.head _))⟩ rfl rfl trivial (.cons_cons _ (List.nil_sublist _)) (by simp [own_stable])
end Go.Proofs.YtdkonngkbbgcgaaGreatDoor
