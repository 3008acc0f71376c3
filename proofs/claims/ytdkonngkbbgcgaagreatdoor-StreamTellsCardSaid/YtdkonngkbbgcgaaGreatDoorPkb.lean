/- package pack, the opener: what is taken of bytes. -/
import Derived.Test.YtdkonngkbbgcgaaGreatDoorPka
import Derived.Test.YtdkonngkbbgcgaaGreatDoorGc
namespace Go.Proofs.YtdkonngkbbgcgaaGreatDoor
open Go.RowKit Go.Eng
set_option maxRecDepth 100000
set_option maxHeartbeats 40000000
/-- An opener in memory. -/
abbrev opJ (b : Nat) (a : Option Addr) (n c e : Nat) : Eng.Item := pt b (.cells #[.slice a n c, .int .i64 e] 133 (0, 0))
def opI (b : Nat) (a : Option Addr) (c : Nat) (st : Opn) : Eng.Item := opJ b a st.1.length c (if st.2 then 3 else 0)
theorem opI_good (b : Nat) (a : Option Addr) (c : Nat) (r : Bys) : opI b a c (r, false) = opJ b a r.length c 0 := rfl
theorem opI_bad (b : Nat) (a : Option Addr) (c : Nat) (r : Bys) : opI b a c (r, true) = opJ b a r.length c 3 := rfl
theorem opI_stable (b : Nat) (a : Option Addr) (c : Nat) (st : Opn) : (opI b a c st).Stable none' := pt_stable _ _ _
/-- What is left of bytes lies in an item. -/
def OpOk (D : Eng.Item) (a : Option Addr) (c : Nat) (r : Bys) : Prop := r.length ≤ c ∧ ∀ w, D.prop w → Rd w a (bytesV r)
theorem OpOk.drop {D : Eng.Item} {a : Option Addr} {c : Nat} {r : Bys} (h : OpOk D a c r) (n : Nat) : OpOk D (slAt a (decide (c = n)) (n * 1)) (c - n) (r.drop n) :=
  ⟨by rw [List.length_drop]; have := h.1; omega, fun w hw => by rw [bytesV_drop]; exact (h.2 w hw).drop1 n (by rw [bytesV_length]; exact h.1)⟩
theorem OpOk.front {D : Eng.Item} {a : Option Addr} {c : Nat} {r : Bys} (h : OpOk D a c r) (n : Nat) {w : World} (hw : D.prop w) : Rd w a (bytesV (r.take n)) := by
  rw [bytesV_take]; exact (h.2 w hw).take n
theorem opT_short {n : Nat} {r : Bys} (h : r.length < n) : opT n (r, false) = ([], (r, true)) := by simp [opT, h]
theorem opT_long {n : Nat} {r : Bys} (h : n ≤ r.length) : opT n (r, false) = (r.take n, (r.drop n, false)) := by simp [opT, Nat.not_lt.2 h]
theorem beV_step (bs : Bys) {k : Nat} (h : k < bs.length) : beV (bs.take (k + 1)) = beV (bs.take k) * 256 + bs[k].toNat := by
  rw [List.take_succ_eq_append_getElem h, beV_snoc]
theorem beV_small (bs : Bys) {k : Nat} (hk : k ≤ 7) : beV (bs.take k) * 256 + 255 < 18446744073709551616 := by
  have h1 := beV_lt (bs.take k)
  have h2 : (bs.take k).length ≤ 7 := by rw [List.length_take]; omega
  have h3 : 256 ^ (bs.take k).length ≤ 256 ^ 7 := Nat.pow_le_pow_right (by decide) h2
  have e : 256 ^ 7 = 72057594037927936 := by decide
  omega
theorem be_calls (a : Option Addr) (n c : Nat) (bs : Bys) (hn : bs.length = n) (h8 : n ≤ 8) (w : World) (hr : Rd w a (bytesV bs)) :
    Pu Tryz.prog 66 #[.slice a n c] w (.int .u64 (beV bs : Nat)) := by
  refine pu_of [_] Tryz.func66 rfl rfl ?_
  simp only [argSlots]
  (repeat first | with_reducible (first | apply t_seq | apply t_region | apply t_block | apply t_ret | apply t_skip | apply t_exit | apply l_nil | apply x_then | apply x_pass_exit | apply x_pass_ret | apply x_block_ret | apply x_block_normal | apply x_block_here | apply x_block_out rfl) | refine lAv rfl ?_ | refine l_no rfl ?_ | refine tT rfl rfl ?_ | refine tF rfl rfl ?_ | refine lT rfl rfl ?_ | refine lF rfl rfl ?_)
  refine t_for (α := Nat) (fun k => [(3, .int .u64 (beV (bs.take k) : Nat)), (6, .slice a n c), (7, .int .i64 n), (8, .int .i64 k)]) (fun k => k ≤ n) (fun _ => []) (fun k => n - k) 0 ⟨rfl, rfl, rfl, rfl, trivial⟩ (Nat.zero_le _) (fun _ h => h) fun k hk => ?_
  by_cases hk2 : k < n
  · have hkb : k < bs.length := by omega
    obtain ⟨b, off, rfl, hc⟩ := hr.byte hkb
    have hst := beV_step bs hkb
    have hsm := beV_small bs (k := k) (by omega)
    have hlt := bs[k].toNat_lt
    generalize bs[k] = x at hc hst hlt
    have hor := shl_or (beV (bs.take k)) x.toNat hsm hlt
    (repeat first | with_reducible (first | apply t_seq | apply t_region | apply t_block | apply t_ret | apply t_skip | apply t_exit | apply l_nil | apply x_then | apply x_pass_exit | apply x_pass_ret | apply x_block_ret | apply x_block_normal | apply x_block_here | apply x_block_out rfl) | refine lAv rfl ?_ | refine l_no rfl ?_ | refine tT rfl rfl ?_ | refine tF rfl rfl ?_ | refine lT rfl rfl ?_ | refine lF rfl rfl ?_)
    refine l_w rfl (v_load0 rfl rfl (fun h => h) hc) ?_
    (repeat first | with_reducible (first | apply t_seq | apply t_region | apply t_block | apply t_ret | apply t_skip | apply t_exit | apply l_nil | apply x_then | apply x_pass_exit | apply x_pass_ret | apply x_block_ret | apply x_block_normal | apply x_block_here | apply x_block_out rfl) | refine lAv rfl ?_ | refine l_no rfl ?_ | refine tT rfl rfl ?_ | refine tF rfl rfl ?_ | refine lT rfl rfl ?_ | refine lF rfl rfl ?_)
    rw [hor, ← hst]
    (repeat first | with_reducible (first | apply t_seq | apply t_region | apply t_block | apply t_ret | apply t_skip | apply t_exit | apply l_nil | apply x_then | apply x_pass_exit | apply x_pass_ret | apply x_block_ret | apply x_block_normal | apply x_block_here | apply x_block_out rfl) | refine lAv rfl ?_ | refine l_no rfl ?_ | refine tT rfl rfl ?_ | refine tF rfl rfl ?_ | refine lT rfl rfl ?_ | refine lF rfl rfl ?_)
    exact x_round (k + 1) ⟨rfl, rfl, rfl, rfl, trivial⟩ hk2 (fun _ h => h) (by omega)
  · obtain rfl : k = n := by omega
    have ht : bs.take k = bs := List.take_of_length_le (by omega)
    rw [ht]
    (repeat first | with_reducible (first | apply t_seq | apply t_region | apply t_block | apply t_ret | apply t_skip | apply t_exit | apply l_nil | apply x_then | apply x_pass_exit | apply x_pass_ret | apply x_block_ret | apply x_block_normal | apply x_block_here | apply x_block_out rfl) | refine lAv rfl ?_ | refine l_no rfl ?_ | refine tT rfl rfl ?_ | refine tF rfl rfl ?_ | refine lT rfl rfl ?_ | refine lF rfl rfl ?_)
    exact x_pu rfl rfl rfl
theorem takeN_calls (b : Nat) (a : Option Addr) (c : Nat) (st : Opn) (n : Nat) (D : Eng.Item) (hsD : D.Stable none') (hD : OpOk D a c st.1) (hn : n ≤ 8) (hz : st.1.length ≤ 1000000000) (w : World) (hw : ∀ it ∈ [opI b a c st, D], Here it w) (ha : [opI b a c st, D].Pairwise Eng.Item.Apart) :
    Ct Tryz.prog 65 #[.pointer (some ⟨b, 0, none⟩), .int .i64 n, .func (.func 66) #[] #[]] w (foots [opI b a c st, D]) (fun _ : Option Addr × Nat => .int .u64 ((opN n st).1 : Nat)) (fun p => OpOk D p.1 p.2 (opN n st).2.1) (fun p => [opI b p.1 p.2 (opN n st).2, D]) := by
  obtain ⟨r, bad⟩ := st
  simp only [opN] at *
  cases bad with
  | true =>
    rw [opT_bad]
    simp only [opI_bad] at *
    refine cu_of [_, _, _] _ Tryz.func65 rfl rfl hw ha ?_
    simp only [argSlots, Nat.reduceAdd]
    (repeat first | with_reducible (first | apply t_seq | apply t_region | apply t_block | apply t_ret | apply t_skip | apply t_exit | apply l_nil | apply x_then | apply x_pass_exit | apply x_pass_ret | apply x_block_ret | apply x_block_normal | apply x_block_here | apply x_block_out rfl) | refine lAv rfl ?_ | refine l_no rfl ?_ | refine tT rfl rfl ?_ | refine tF rfl rfl ?_ | refine lT rfl rfl ?_ | refine lF rfl rfl ?_)
    exact x_ct (a, c) rfl rfl rfl hD (.refl _) (by simp [pt_stable, hsD])
  | false =>
    by_cases hs : r.length < n
    · rw [opT_short hs]
      simp only [opI_bad, opI_good] at *
      refine cu_of [_, _, _] _ Tryz.func65 rfl rfl hw ha ?_
      simp only [argSlots, Nat.reduceAdd]
      (repeat first | with_reducible (first | apply t_seq | apply t_region | apply t_block | apply t_ret | apply t_skip | apply t_exit | apply l_nil | apply x_then | apply x_pass_exit | apply x_pass_ret | apply x_block_ret | apply x_block_normal | apply x_block_here | apply x_block_out rfl) | refine lAv rfl ?_ | refine l_no rfl ?_ | refine tT rfl rfl ?_ | refine tF rfl rfl ?_ | refine lT rfl rfl ?_ | refine lF rfl rfl ?_)
      refine l_op rfl (o_store1 rfl rfl rfl rfl rfl rfl (by simp)) fun _ => ?_
      (repeat first | with_reducible (first | apply t_seq | apply t_region | apply t_block | apply t_ret | apply t_skip | apply t_exit | apply l_nil | apply x_then | apply x_pass_exit | apply x_pass_ret | apply x_block_ret | apply x_block_normal | apply x_block_here | apply x_block_out rfl) | refine lAv rfl ?_ | refine l_no rfl ?_ | refine tT rfl rfl ?_ | refine tF rfl rfl ?_ | refine lT rfl rfl ?_ | refine lF rfl rfl ?_)
      exact x_ct (a, c) rfl rfl rfl hD (.refl _) (by simp [pt_stable, hsD])
    · have hl : n ≤ r.length := by omega
      have hcap := hD.1
      rw [opT_long hl]
      simp only [opI_good] at *
      refine cu_of [_, _, _] _ Tryz.func65 rfl rfl hw ha ?_
      simp only [argSlots, Nat.reduceAdd]
      (repeat first | with_reducible (first | apply t_seq | apply t_region | apply t_block | apply t_ret | apply t_skip | apply t_exit | apply l_nil | apply x_then | apply x_pass_exit | apply x_pass_ret | apply x_block_ret | apply x_block_normal | apply x_block_here | apply x_block_out rfl) | refine lAv rfl ?_ | refine l_no rfl ?_ | refine tT rfl rfl ?_ | refine tF rfl rfl ?_ | refine lT rfl rfl ?_ | refine lF rfl rfl ?_)
      refine l_op rfl (o_store1 rfl rfl rfl rfl rfl rfl (by simp)) fun _ => ?_
      (repeat first | with_reducible (first | apply t_seq | apply t_region | apply t_block | apply t_ret | apply t_skip | apply t_exit | apply l_nil | apply x_then | apply x_pass_exit | apply x_pass_ret | apply x_block_ret | apply x_block_normal | apply x_block_here | apply x_block_out rfl) | refine lAv rfl ?_ | refine l_no rfl ?_ | refine tT rfl rfl ?_ | refine tF rfl rfl ?_ | refine lT rfl rfl ?_ | refine lF rfl rfl ?_)
      refine l_opg rfl (o_pureF (fs := []) (cs := []) rfl (by kernel_rfl) rfl rfl rfl fun w1 hw1 => be_calls a n c (r.take n) (by rw [List.length_take]; omega) hn w1 (hD.front n (hw1.item D (by simp)).1)) fun _ => ?_
      (repeat first | with_reducible (first | apply t_seq | apply t_region | apply t_block | apply t_ret | apply t_skip | apply t_exit | apply l_nil | apply x_then | apply x_pass_exit | apply x_pass_ret | apply x_block_ret | apply x_block_normal | apply x_block_here | apply x_block_out rfl) | refine lAv rfl ?_ | refine l_no rfl ?_ | refine tT rfl rfl ?_ | refine tF rfl rfl ?_ | refine lT rfl rfl ?_ | refine lF rfl rfl ?_)
      have e : r.length - n = (r.drop n).length := by rw [List.length_drop]
      rw [e]
      exact x_ct (_, _) rfl rfl rfl (hD.drop n) (.refl _) (by simp [pt_stable, hsD])
/-! ### Texts -/
theorem bstr_calls (a : Option Addr) (n c : Nat) (bs : Bys) (hn : bs.length = n) (w : World) (hr : Rd w a (bytesV bs)) :
    Pu Tryz.prog 70 #[.slice a n c] w (.string ⟨bs.toArray⟩) := by
  refine pu_of [_] Tryz.func70 rfl rfl ?_
  simp only [argSlots]
  (repeat first | with_reducible (first | apply t_seq | apply t_region | apply t_block | apply t_ret | apply t_skip | apply t_exit | apply l_nil | apply x_then | apply x_pass_exit | apply x_pass_ret | apply x_block_ret | apply x_block_normal | apply x_block_here | apply x_block_out rfl) | refine lAv rfl ?_ | refine l_no rfl ?_ | refine tT rfl rfl ?_ | refine tF rfl rfl ?_ | refine lT rfl rfl ?_ | refine lF rfl rfl ?_)
  refine l_w rfl (v_bstr rfl hn.symm rfl rfl (fun w1 hw1 => hr.keep hw1)) ?_
  (repeat first | with_reducible (first | apply t_seq | apply t_region | apply t_block | apply t_ret | apply t_skip | apply t_exit | apply l_nil | apply x_then | apply x_pass_exit | apply x_pass_ret | apply x_block_ret | apply x_block_normal | apply x_block_here | apply x_block_out rfl) | refine lAv rfl ?_ | refine l_no rfl ?_ | refine tT rfl rfl ?_ | refine tF rfl rfl ?_ | refine lT rfl rfl ?_ | refine lF rfl rfl ?_)
  exact x_pu rfl rfl rfl
theorem takeT_calls (b : Nat) (a : Option Addr) (c : Nat) (st : Opn) (n : Nat) (D : Eng.Item) (hsD : D.Stable none') (hD : OpOk D a c st.1) (hz : st.1.length ≤ 1000000000) (w : World) (hw : ∀ it ∈ [opI b a c st, D], Here it w) (ha : [opI b a c st, D].Pairwise Eng.Item.Apart) :
    Ct Tryz.prog 69 #[.pointer (some ⟨b, 0, none⟩), .int .i64 n, .func (.func 70) #[] #[]] w (foots [opI b a c st, D]) (fun _ : Option Addr × Nat => .string ⟨(opT n st).1.toArray⟩) (fun p => OpOk D p.1 p.2 (opT n st).2.1) (fun p => [opI b p.1 p.2 (opT n st).2, D]) := by
  obtain ⟨r, bad⟩ := st
  cases bad with
  | true =>
    rw [opT_bad]
    simp only [opI_bad] at *
    refine cu_of [_, _, _] _ Tryz.func69 rfl rfl hw ha ?_
    simp only [argSlots, Nat.reduceAdd]
    (repeat first | with_reducible (first | apply t_seq | apply t_region | apply t_block | apply t_ret | apply t_skip | apply t_exit | apply l_nil | apply x_then | apply x_pass_exit | apply x_pass_ret | apply x_block_ret | apply x_block_normal | apply x_block_here | apply x_block_out rfl) | refine lAv rfl ?_ | refine l_no rfl ?_ | refine tT rfl rfl ?_ | refine tF rfl rfl ?_ | refine lT rfl rfl ?_ | refine lF rfl rfl ?_)
    exact x_ct (a, c) rfl rfl rfl hD (.refl _) (by simp [pt_stable, hsD])
  | false =>
    by_cases hs : r.length < n
    · rw [opT_short hs]
      simp only [opI_bad, opI_good] at *
      refine cu_of [_, _, _] _ Tryz.func69 rfl rfl hw ha ?_
      simp only [argSlots, Nat.reduceAdd]
      (repeat first | with_reducible (first | apply t_seq | apply t_region | apply t_block | apply t_ret | apply t_skip | apply t_exit | apply l_nil | apply x_then | apply x_pass_exit | apply x_pass_ret | apply x_block_ret | apply x_block_normal | apply x_block_here | apply x_block_out rfl) | refine lAv rfl ?_ | refine l_no rfl ?_ | refine tT rfl rfl ?_ | refine tF rfl rfl ?_ | refine lT rfl rfl ?_ | refine lF rfl rfl ?_)
      refine l_op rfl (o_store1 rfl rfl rfl rfl rfl rfl (by simp)) fun _ => ?_
      (repeat first | with_reducible (first | apply t_seq | apply t_region | apply t_block | apply t_ret | apply t_skip | apply t_exit | apply l_nil | apply x_then | apply x_pass_exit | apply x_pass_ret | apply x_block_ret | apply x_block_normal | apply x_block_here | apply x_block_out rfl) | refine lAv rfl ?_ | refine l_no rfl ?_ | refine tT rfl rfl ?_ | refine tF rfl rfl ?_ | refine lT rfl rfl ?_ | refine lF rfl rfl ?_)
      exact x_ct (a, c) rfl rfl rfl hD (.refl _) (by simp [pt_stable, hsD])
    · have hl : n ≤ r.length := by omega
      have hcap := hD.1
      rw [opT_long hl]
      simp only [opI_good] at *
      refine cu_of [_, _, _] _ Tryz.func69 rfl rfl hw ha ?_
      simp only [argSlots, Nat.reduceAdd]
      (repeat first | with_reducible (first | apply t_seq | apply t_region | apply t_block | apply t_ret | apply t_skip | apply t_exit | apply l_nil | apply x_then | apply x_pass_exit | apply x_pass_ret | apply x_block_ret | apply x_block_normal | apply x_block_here | apply x_block_out rfl) | refine lAv rfl ?_ | refine l_no rfl ?_ | refine tT rfl rfl ?_ | refine tF rfl rfl ?_ | refine lT rfl rfl ?_ | refine lF rfl rfl ?_)
      refine l_op rfl (o_store1 rfl rfl rfl rfl rfl rfl (by simp)) fun _ => ?_
      (repeat first | with_reducible (first | apply t_seq | apply t_region | apply t_block | apply t_ret | apply t_skip | apply t_exit | apply l_nil | apply x_then | apply x_pass_exit | apply x_pass_ret | apply x_block_ret | apply x_block_normal | apply x_block_here | apply x_block_out rfl) | refine lAv rfl ?_ | refine l_no rfl ?_ | refine tT rfl rfl ?_ | refine tF rfl rfl ?_ | refine lT rfl rfl ?_ | refine lF rfl rfl ?_)
      refine l_opg rfl (o_pureF (fs := []) (cs := []) rfl (by kernel_rfl) rfl rfl rfl fun w1 hw1 => bstr_calls a n c (r.take n) (by rw [List.length_take]; omega) w1 (hD.front n (hw1.item D (by simp)).1)) fun _ => ?_
      (repeat first | with_reducible (first | apply t_seq | apply t_region | apply t_block | apply t_ret | apply t_skip | apply t_exit | apply l_nil | apply x_then | apply x_pass_exit | apply x_pass_ret | apply x_block_ret | apply x_block_normal | apply x_block_here | apply x_block_out rfl) | refine lAv rfl ?_ | refine l_no rfl ?_ | refine tT rfl rfl ?_ | refine tF rfl rfl ?_ | refine lT rfl rfl ?_ | refine lF rfl rfl ?_)
      have e : r.length - n = (r.drop n).length := by rw [List.length_drop]
      rw [e]
      exact x_ct (_, _) rfl rfl rfl (hD.drop n) (.refl _) (by simp [pt_stable, hsD])
/-- So many bytes as none may be: an error. -/
theorem takeM_calls (b : Nat) (a : Option Addr) (c : Nat) (st : Opn) (D : Eng.Item) (hsD : D.Stable none') (hD : OpOk D a c st.1) (w : World) (hw : ∀ it ∈ [opI b a c st, D], Here it w) (ha : [opI b a c st, D].Pairwise Eng.Item.Apart) :
    Ct Tryz.prog 69 #[.pointer (some ⟨b, 0, none⟩), .int .i64 (-1), .func (.func 70) #[] #[]] w (foots [opI b a c st, D]) (fun _ : Unit => .string ⟨#[]⟩) (fun _ => True) (fun _ => [opI b a c (st.1, true), D]) := by
  obtain ⟨r, bad⟩ := st
  cases bad with
  | true =>
    simp only [opI_bad] at *
    refine cu_of [_, _, _] _ Tryz.func69 rfl rfl hw ha ?_
    simp only [argSlots, Nat.reduceAdd]
    (repeat first | with_reducible (first | apply t_seq | apply t_region | apply t_block | apply t_ret | apply t_skip | apply t_exit | apply l_nil | apply x_then | apply x_pass_exit | apply x_pass_ret | apply x_block_ret | apply x_block_normal | apply x_block_here | apply x_block_out rfl) | refine lAv rfl ?_ | refine l_no rfl ?_ | refine tT rfl rfl ?_ | refine tF rfl rfl ?_ | refine lT rfl rfl ?_ | refine lF rfl rfl ?_)
    exact x_ct () rfl rfl rfl trivial (.refl _) (by simp [pt_stable, hsD])
  | false =>
    simp only [opI_bad, opI_good] at *
    refine cu_of [_, _, _] _ Tryz.func69 rfl rfl hw ha ?_
    simp only [argSlots, Nat.reduceAdd]
    (repeat first | with_reducible (first | apply t_seq | apply t_region | apply t_block | apply t_ret | apply t_skip | apply t_exit | apply l_nil | apply x_then | apply x_pass_exit | apply x_pass_ret | apply x_block_ret | apply x_block_normal | apply x_block_here | apply x_block_out rfl) | refine lAv rfl ?_ | refine l_no rfl ?_ | refine tT rfl rfl ?_ | refine tF rfl rfl ?_ | refine lT rfl rfl ?_ | refine lF rfl rfl ?_)
    refine l_op rfl (o_store1 rfl rfl rfl rfl rfl rfl (by simp)) fun _ => ?_
    (repeat first | with_reducible (first | apply t_seq | apply t_region | apply t_block | apply t_ret | apply t_skip | apply t_exit | apply l_nil | apply x_then | apply x_pass_exit | apply x_pass_ret | apply x_block_ret | apply x_block_normal | apply x_block_here | apply x_block_out rfl) | refine lAv rfl ?_ | refine l_no rfl ?_ | refine tT rfl rfl ?_ | refine tF rfl rfl ?_ | refine lT rfl rfl ?_ | refine lF rfl rfl ?_)
    exact x_ct () rfl rfl rfl trivial (.refl _) (by simp [pt_stable, hsD])
/-! ### Hashes -/
theorem bhash_calls (a : Option Addr) (n c : Nat) (bs : Bys) (hn : bs.length = n) (h32 : n = 32) (w : World) (hr : Rd w a (bytesV bs)) :
    Pu Tryz.prog 68 #[.slice a n c] w (hashV bs) := by
  refine pu_of [_] Tryz.func68 rfl rfl ?_
  simp only [argSlots]
  have hs : (bytesV bs).length = 32 := by rw [bytesV_length, hn, h32]
  obtain ⟨b, off, rfl, hc⟩ := hr.at_ (by intro h; rw [h] at hs; cases hs)
  (repeat first | with_reducible (first | apply t_seq | apply t_region | apply t_block | apply t_ret | apply t_skip | apply t_exit | apply l_nil | apply x_then | apply x_pass_exit | apply x_pass_ret | apply x_block_ret | apply x_block_normal | apply x_block_here | apply x_block_out rfl) | refine lAv rfl ?_ | refine l_no rfl ?_ | refine tT rfl rfl ?_ | refine tF rfl rfl ?_ | refine lT rfl rfl ?_ | refine lF rfl rfl ?_)
  refine l_alloca rfl rfl fun b2 hb2 => ?_
  (repeat first | with_reducible (first | apply t_seq | apply t_region | apply t_block | apply t_ret | apply t_skip | apply t_exit | apply l_nil | apply x_then | apply x_pass_exit | apply x_pass_ret | apply x_block_ret | apply x_block_normal | apply x_block_here | apply x_block_out rfl) | refine lAv rfl ?_ | refine l_no rfl ?_ | refine tT rfl rfl ?_ | refine tF rfl rfl ?_ | refine lT rfl rfl ?_ | refine lF rfl rfl ?_)
  refine l_w rfl (v_s2ap rfl rfl (by omega)) ?_
  refine l_w rfl (v_loadc (xs := bytesV bs) rfl (by rw [hs]; rfl) (fun w' hw' => rangeAt_old hc (fun h => h) hw')) ?_
  refine l_op rfl (o_storea rfl rfl rfl (by rw [List.size_toArray, hs]; rfl) (bytesV_one _) (by rw [List.size_toArray, hs]; rfl)) fun _ => ?_
  (repeat first | with_reducible (first | apply t_seq | apply t_region | apply t_block | apply t_ret | apply t_skip | apply t_exit | apply l_nil | apply x_then | apply x_pass_exit | apply x_pass_ret | apply x_block_ret | apply x_block_normal | apply x_block_here | apply x_block_out rfl) | refine lAv rfl ?_ | refine l_no rfl ?_ | refine tT rfl rfl ?_ | refine tF rfl rfl ?_ | refine lT rfl rfl ?_ | refine lF rfl rfl ?_)
  exact x_pu rfl ⟨_, rfl, loada_run (by rw [List.size_toArray, hs]; rfl) (.head _)⟩ rfl
theorem hash0 : hash32 [] = List.replicate 32 0 := rfl
theorem takeH_calls (b : Nat) (a : Option Addr) (c : Nat) (st : Opn) (D : Eng.Item) (hsD : D.Stable none') (hD : OpOk D a c st.1) (hz : st.1.length ≤ 1000000000) (w : World) (hw : ∀ it ∈ [opI b a c st, D], Here it w) (ha : [opI b a c st, D].Pairwise Eng.Item.Apart) :
    Ct Tryz.prog 67 #[.pointer (some ⟨b, 0, none⟩), .int .i64 32, .func (.func 68) #[] #[]] w (foots [opI b a c st, D]) (fun _ : Option Addr × Nat => hashV (hash32 (opT 32 st).1)) (fun p => OpOk D p.1 p.2 (opT 32 st).2.1) (fun p => [opI b p.1 p.2 (opT 32 st).2, D]) := by
  obtain ⟨r, bad⟩ := st
  cases bad with
  | true =>
    rw [opT_bad]
    simp only [opI_bad] at *
    refine cu_of [_, _, _] _ Tryz.func67 rfl rfl hw ha ?_
    simp only [argSlots, Nat.reduceAdd]
    (repeat first | with_reducible (first | apply t_seq | apply t_region | apply t_block | apply t_ret | apply t_skip | apply t_exit | apply l_nil | apply x_then | apply x_pass_exit | apply x_pass_ret | apply x_block_ret | apply x_block_normal | apply x_block_here | apply x_block_out rfl) | refine lAv rfl ?_ | refine l_no rfl ?_ | refine tT rfl rfl ?_ | refine tF rfl rfl ?_ | refine lT rfl rfl ?_ | refine lF rfl rfl ?_)
    refine l_alloca rfl rfl fun b6 hb6 => ?_
    (repeat first | with_reducible (first | apply t_seq | apply t_region | apply t_block | apply t_ret | apply t_skip | apply t_exit | apply l_nil | apply x_then | apply x_pass_exit | apply x_pass_ret | apply x_block_ret | apply x_block_normal | apply x_block_here | apply x_block_out rfl) | refine lAv rfl ?_ | refine l_no rfl ?_ | refine tT rfl rfl ?_ | refine tF rfl rfl ?_ | refine lT rfl rfl ?_ | refine lF rfl rfl ?_)
    refine l_alloca rfl rfl fun b7 hb7 => ?_
    (repeat first | with_reducible (first | apply t_seq | apply t_region | apply t_block | apply t_ret | apply t_skip | apply t_exit | apply l_nil | apply x_then | apply x_pass_exit | apply x_pass_ret | apply x_block_ret | apply x_block_normal | apply x_block_here | apply x_block_out rfl) | refine lAv rfl ?_ | refine l_no rfl ?_ | refine tT rfl rfl ?_ | refine tF rfl rfl ?_ | refine lT rfl rfl ?_ | refine lF rfl rfl ?_)
    refine l_op rfl (ho_perm (bring1 _ _ _) (o_storea rfl rfl rfl rfl rfl rfl)) fun _ => ?_
    (repeat first | with_reducible (first | apply t_seq | apply t_region | apply t_block | apply t_ret | apply t_skip | apply t_exit | apply l_nil | apply x_then | apply x_pass_exit | apply x_pass_ret | apply x_block_ret | apply x_block_normal | apply x_block_here | apply x_block_out rfl) | refine lAv rfl ?_ | refine l_no rfl ?_ | refine tT rfl rfl ?_ | refine tF rfl rfl ?_ | refine lT rfl rfl ?_ | refine lF rfl rfl ?_)
    exact x_ct (a, c) rfl ⟨_, rfl, loada_run rfl (.head _)⟩ rfl hD (.cons _ (.cons _ (.refl _))) (by simp [pt_stable, hsD])
  | false =>
    by_cases hs : r.length < 32
    · rw [opT_short hs]
      simp only [opI_bad, opI_good] at *
      refine cu_of [_, _, _] _ Tryz.func67 rfl rfl hw ha ?_
      simp only [argSlots, Nat.reduceAdd]
      (repeat first | with_reducible (first | apply t_seq | apply t_region | apply t_block | apply t_ret | apply t_skip | apply t_exit | apply l_nil | apply x_then | apply x_pass_exit | apply x_pass_ret | apply x_block_ret | apply x_block_normal | apply x_block_here | apply x_block_out rfl) | refine lAv rfl ?_ | refine l_no rfl ?_ | refine tT rfl rfl ?_ | refine tF rfl rfl ?_ | refine lT rfl rfl ?_ | refine lF rfl rfl ?_)
      refine l_alloca rfl rfl fun b6 hb6 => ?_
      (repeat first | with_reducible (first | apply t_seq | apply t_region | apply t_block | apply t_ret | apply t_skip | apply t_exit | apply l_nil | apply x_then | apply x_pass_exit | apply x_pass_ret | apply x_block_ret | apply x_block_normal | apply x_block_here | apply x_block_out rfl) | refine lAv rfl ?_ | refine l_no rfl ?_ | refine tT rfl rfl ?_ | refine tF rfl rfl ?_ | refine lT rfl rfl ?_ | refine lF rfl rfl ?_)
      refine l_alloca rfl rfl fun b7 hb7 => ?_
      (repeat first | with_reducible (first | apply t_seq | apply t_region | apply t_block | apply t_ret | apply t_skip | apply t_exit | apply l_nil | apply x_then | apply x_pass_exit | apply x_pass_ret | apply x_block_ret | apply x_block_normal | apply x_block_here | apply x_block_out rfl) | refine lAv rfl ?_ | refine l_no rfl ?_ | refine tT rfl rfl ?_ | refine tF rfl rfl ?_ | refine lT rfl rfl ?_ | refine lF rfl rfl ?_)
      refine l_op rfl (ho_perm (bring2 _ _ _ _) (o_store1 rfl rfl rfl rfl rfl rfl (by simp))) fun _ => ?_
      (repeat first | with_reducible (first | apply t_seq | apply t_region | apply t_block | apply t_ret | apply t_skip | apply t_exit | apply l_nil | apply x_then | apply x_pass_exit | apply x_pass_ret | apply x_block_ret | apply x_block_normal | apply x_block_here | apply x_block_out rfl) | refine lAv rfl ?_ | refine l_no rfl ?_ | refine tT rfl rfl ?_ | refine tF rfl rfl ?_ | refine lT rfl rfl ?_ | refine lF rfl rfl ?_)
      refine l_op rfl (ho_perm (bring2 _ _ _ _) (o_storea rfl rfl rfl rfl rfl rfl)) fun _ => ?_
      (repeat first | with_reducible (first | apply t_seq | apply t_region | apply t_block | apply t_ret | apply t_skip | apply t_exit | apply l_nil | apply x_then | apply x_pass_exit | apply x_pass_ret | apply x_block_ret | apply x_block_normal | apply x_block_here | apply x_block_out rfl) | refine lAv rfl ?_ | refine l_no rfl ?_ | refine tT rfl rfl ?_ | refine tF rfl rfl ?_ | refine lT rfl rfl ?_ | refine lF rfl rfl ?_)
      exact x_ct (a, c) rfl ⟨_, rfl, loada_run rfl (.head _)⟩ rfl hD (.cons _ (.cons_cons _ (.cons _ (.refl _)))) (by simp [pt_stable, hsD])
    · have hl : 32 ≤ r.length := by omega
      have hcap := hD.1
      have h32 : (r.take 32).length = 32 := by rw [List.length_take]; omega
      rw [opT_long hl]
      simp only [opI_good] at *
      refine cu_of [_, _, _] _ Tryz.func67 rfl rfl hw ha ?_
      simp only [argSlots, Nat.reduceAdd]
      (repeat first | with_reducible (first | apply t_seq | apply t_region | apply t_block | apply t_ret | apply t_skip | apply t_exit | apply l_nil | apply x_then | apply x_pass_exit | apply x_pass_ret | apply x_block_ret | apply x_block_normal | apply x_block_here | apply x_block_out rfl) | refine lAv rfl ?_ | refine l_no rfl ?_ | refine tT rfl rfl ?_ | refine tF rfl rfl ?_ | refine lT rfl rfl ?_ | refine lF rfl rfl ?_)
      refine l_alloca rfl rfl fun b6 hb6 => ?_
      (repeat first | with_reducible (first | apply t_seq | apply t_region | apply t_block | apply t_ret | apply t_skip | apply t_exit | apply l_nil | apply x_then | apply x_pass_exit | apply x_pass_ret | apply x_block_ret | apply x_block_normal | apply x_block_here | apply x_block_out rfl) | refine lAv rfl ?_ | refine l_no rfl ?_ | refine tT rfl rfl ?_ | refine tF rfl rfl ?_ | refine lT rfl rfl ?_ | refine lF rfl rfl ?_)
      refine l_alloca rfl rfl fun b7 hb7 => ?_
      (repeat first | with_reducible (first | apply t_seq | apply t_region | apply t_block | apply t_ret | apply t_skip | apply t_exit | apply l_nil | apply x_then | apply x_pass_exit | apply x_pass_ret | apply x_block_ret | apply x_block_normal | apply x_block_here | apply x_block_out rfl) | refine lAv rfl ?_ | refine l_no rfl ?_ | refine tT rfl rfl ?_ | refine tF rfl rfl ?_ | refine lT rfl rfl ?_ | refine lF rfl rfl ?_)
      refine l_op rfl (ho_perm (bring2 _ _ _ _) (o_store1 rfl rfl rfl rfl rfl rfl (by simp))) fun _ => ?_
      (repeat first | with_reducible (first | apply t_seq | apply t_region | apply t_block | apply t_ret | apply t_skip | apply t_exit | apply l_nil | apply x_then | apply x_pass_exit | apply x_pass_ret | apply x_block_ret | apply x_block_normal | apply x_block_here | apply x_block_out rfl) | refine lAv rfl ?_ | refine l_no rfl ?_ | refine tT rfl rfl ?_ | refine tF rfl rfl ?_ | refine lT rfl rfl ?_ | refine lF rfl rfl ?_)
      refine l_opg rfl (o_pureF (fs := []) (cs := []) rfl (by kernel_rfl) rfl rfl rfl fun w1 hw1 => bhash_calls a 32 c (r.take 32) h32 rfl w1 (hD.front 32 (hw1.item D (by simp)).1)) fun _ => ?_
      have hv : (bytesV (r.take 32)).length = 32 := by rw [bytesV_length, h32]
      have hh : hash32 (r.take 32) = r.take 32 := by rw [hash32, if_pos h32]
      refine l_op rfl (ho_perm (bring2 _ _ _ _) (o_storea (cs' := (bytesV (r.take 32)).toArray) rfl rfl rfl (by rw [List.size_toArray, hv]; rfl) (bytesV_one _) (by rw [List.size_toArray, hv]; rfl))) fun _ => ?_
      (repeat first | with_reducible (first | apply t_seq | apply t_region | apply t_block | apply t_ret | apply t_skip | apply t_exit | apply l_nil | apply x_then | apply x_pass_exit | apply x_pass_ret | apply x_block_ret | apply x_block_normal | apply x_block_here | apply x_block_out rfl) | refine lAv rfl ?_ | refine l_no rfl ?_ | refine tT rfl rfl ?_ | refine tF rfl rfl ?_ | refine lT rfl rfl ?_ | refine lF rfl rfl ?_)
      have e : r.length - 32 = (r.drop 32).length := by rw [List.length_drop]
      rw [e, hh]
      exact x_ct (_, _) rfl ⟨_, rfl, loada_run (by rw [List.size_toArray, hv]; rfl) (.head _)⟩ rfl (hD.drop 32) (.cons _ (.cons_cons _ (.cons _ (.refl _)))) (by simp [pt_stable, hsD])
/-! ### The methods -/
theorem oTake_calls (b : Nat) (a : Option Addr) (c : Nat) (st : Opn) (n : Nat) (D : Eng.Item) (hsD : D.Stable none') (hD : OpOk D a c st.1) (hn : n = 1 ∨ n = 2 ∨ n = 4) (hz : st.1.length ≤ 1000000000) (w : World) (hw : ∀ it ∈ [opI b a c st, D], Here it w) (ha : [opI b a c st, D].Pairwise Eng.Item.Apart) :
    Ct Tryz.prog 34 #[.pointer (some ⟨b, 0, none⟩), .int .i64 n] w (foots [opI b a c st, D]) (fun _ : Option Addr × Nat => .int .u64 ((opN n st).1 : Nat)) (fun p => OpOk D p.1 p.2 (opN n st).2.1) (fun p => [opI b p.1 p.2 (opN n st).2, D]) := by
  refine cu_of [_, _] _ Tryz.func34 rfl rfl hw ha ?_
  simp only [argSlots, Nat.reduceAdd]
  (repeat first | with_reducible (first | apply t_seq | apply t_region | apply t_block | apply t_ret | apply t_skip | apply t_exit | apply l_nil | apply x_then | apply x_pass_exit | apply x_pass_ret | apply x_block_ret | apply x_block_normal | apply x_block_here | apply x_block_out rfl) | refine lAv rfl ?_ | refine l_no rfl ?_ | refine tT rfl rfl ?_ | refine tF rfl rfl ?_ | refine lT rfl rfl ?_ | refine lF rfl rfl ?_)
  refine l_opg rfl (o_pure rfl (by kernel_rfl) rfl (fun w1 hw1 => wide_calls n (by omega) w1)) fun _ => ?_
  (repeat first | with_reducible (first | apply t_seq | apply t_region | apply t_block | apply t_ret | apply t_skip | apply t_exit | apply l_nil | apply x_then | apply x_pass_exit | apply x_pass_ret | apply x_block_ret | apply x_block_normal | apply x_block_here | apply x_block_out rfl) | refine lAv rfl ?_ | refine l_no rfl ?_ | refine tT rfl rfl ?_ | refine tF rfl rfl ?_ | refine lT rfl rfl ?_ | refine lF rfl rfl ?_)
  refine l_opg rfl (o_cu (pre := [opI b a c st, D]) rfl (by kernel_rfl) rfl (by simp [opI_stable, hsD]) (fun w1 hw1 hh1 ha1 => takeN_calls b a c st n D hsD hD (by omega) hz w1 hh1 ha1)) fun ⟨x, hx⟩ => ?_
  (repeat first | with_reducible (first | apply t_seq | apply t_region | apply t_block | apply t_ret | apply t_skip | apply t_exit | apply l_nil | apply x_then | apply x_pass_exit | apply x_pass_ret | apply x_block_ret | apply x_block_normal | apply x_block_here | apply x_block_out rfl) | refine lAv rfl ?_ | refine l_no rfl ?_ | refine tT rfl rfl ?_ | refine tF rfl rfl ?_ | refine lT rfl rfl ?_ | refine lF rfl rfl ?_)
  exact x_ct x rfl rfl rfl hx (.refl _) (by simp [opI_stable, hsD])
theorem oText_calls (b : Nat) (a : Option Addr) (c : Nat) (st : Opn) (n : Nat) (D : Eng.Item) (hsD : D.Stable none') (hD : OpOk D a c st.1) (hz : st.1.length ≤ 1000000000) (w : World) (hw : ∀ it ∈ [opI b a c st, D], Here it w) (ha : [opI b a c st, D].Pairwise Eng.Item.Apart) :
    Ct Tryz.prog 36 #[.pointer (some ⟨b, 0, none⟩), .int .i64 n] w (foots [opI b a c st, D]) (fun _ : Option Addr × Nat => .string ⟨(opT n st).1.toArray⟩) (fun p => OpOk D p.1 p.2 (opT n st).2.1) (fun p => [opI b p.1 p.2 (opT n st).2, D]) := by
  refine cu_of [_, _] _ Tryz.func36 rfl rfl hw ha ?_
  simp only [argSlots, Nat.reduceAdd]
  (repeat first | with_reducible (first | apply t_seq | apply t_region | apply t_block | apply t_ret | apply t_skip | apply t_exit | apply l_nil | apply x_then | apply x_pass_exit | apply x_pass_ret | apply x_block_ret | apply x_block_normal | apply x_block_here | apply x_block_out rfl) | refine lAv rfl ?_ | refine l_no rfl ?_ | refine tT rfl rfl ?_ | refine tF rfl rfl ?_ | refine lT rfl rfl ?_ | refine lF rfl rfl ?_)
  refine l_opg rfl (o_cu (pre := [opI b a c st, D]) rfl (by kernel_rfl) rfl (by simp [opI_stable, hsD]) (fun w1 hw1 hh1 ha1 => takeT_calls b a c st n D hsD hD hz w1 hh1 ha1)) fun ⟨x, hx⟩ => ?_
  (repeat first | with_reducible (first | apply t_seq | apply t_region | apply t_block | apply t_ret | apply t_skip | apply t_exit | apply l_nil | apply x_then | apply x_pass_exit | apply x_pass_ret | apply x_block_ret | apply x_block_normal | apply x_block_here | apply x_block_out rfl) | refine lAv rfl ?_ | refine l_no rfl ?_ | refine tT rfl rfl ?_ | refine tF rfl rfl ?_ | refine lT rfl rfl ?_ | refine lF rfl rfl ?_)
  exact x_ct x rfl rfl rfl hx (.refl _) (by simp [opI_stable, hsD])
theorem oTextM_calls (b : Nat) (a : Option Addr) (c : Nat) (st : Opn) (D : Eng.Item) (hsD : D.Stable none') (hD : OpOk D a c st.1) (w : World) (hw : ∀ it ∈ [opI b a c st, D], Here it w) (ha : [opI b a c st, D].Pairwise Eng.Item.Apart) :
    Ct Tryz.prog 36 #[.pointer (some ⟨b, 0, none⟩), .int .i64 (-1)] w (foots [opI b a c st, D]) (fun _ : Unit => .string ⟨#[]⟩) (fun _ => True) (fun _ => [opI b a c (st.1, true), D]) := by
  refine cu_of [_, _] _ Tryz.func36 rfl rfl hw ha ?_
  simp only [argSlots, Nat.reduceAdd]
  (repeat first | with_reducible (first | apply t_seq | apply t_region | apply t_block | apply t_ret | apply t_skip | apply t_exit | apply l_nil | apply x_then | apply x_pass_exit | apply x_pass_ret | apply x_block_ret | apply x_block_normal | apply x_block_here | apply x_block_out rfl) | refine lAv rfl ?_ | refine l_no rfl ?_ | refine tT rfl rfl ?_ | refine tF rfl rfl ?_ | refine lT rfl rfl ?_ | refine lF rfl rfl ?_)
  refine l_opg rfl (o_cu (pre := [opI b a c st, D]) rfl (by kernel_rfl) rfl (by simp [opI_stable, hsD]) (fun w1 hw1 hh1 ha1 => takeM_calls b a c st D hsD hD w1 hh1 ha1)) fun ⟨x, hx⟩ => ?_
  (repeat first | with_reducible (first | apply t_seq | apply t_region | apply t_block | apply t_ret | apply t_skip | apply t_exit | apply l_nil | apply x_then | apply x_pass_exit | apply x_pass_ret | apply x_block_ret | apply x_block_normal | apply x_block_here | apply x_block_out rfl) | refine lAv rfl ?_ | refine l_no rfl ?_ | refine tT rfl rfl ?_ | refine tF rfl rfl ?_ | refine lT rfl rfl ?_ | refine lF rfl rfl ?_)
  exact x_ct x rfl rfl rfl hx (.refl _) (by simp [opI_stable, hsD])
theorem oHash_calls (b : Nat) (a : Option Addr) (c : Nat) (st : Opn) (D : Eng.Item) (hsD : D.Stable none') (hD : OpOk D a c st.1) (hz : st.1.length ≤ 1000000000) (w : World) (hw : ∀ it ∈ [opI b a c st, D], Here it w) (ha : [opI b a c st, D].Pairwise Eng.Item.Apart) :
    Ct Tryz.prog 35 #[.pointer (some ⟨b, 0, none⟩)] w (foots [opI b a c st, D]) (fun _ : Option Addr × Nat => hashV (hash32 (opT 32 st).1)) (fun p => OpOk D p.1 p.2 (opT 32 st).2.1) (fun p => [opI b p.1 p.2 (opT 32 st).2, D]) := by
  refine cu_of [_] _ Tryz.func35 rfl rfl hw ha ?_
  simp only [argSlots]
  have hv : (bytesV (hash32 (opT 32 st).1)).length = 32 := by rw [bytesV_length, hash32_len]
  (repeat first | with_reducible (first | apply t_seq | apply t_region | apply t_block | apply t_ret | apply t_skip | apply t_exit | apply l_nil | apply x_then | apply x_pass_exit | apply x_pass_ret | apply x_block_ret | apply x_block_normal | apply x_block_here | apply x_block_out rfl) | refine lAv rfl ?_ | refine l_no rfl ?_ | refine tT rfl rfl ?_ | refine tF rfl rfl ?_ | refine lT rfl rfl ?_ | refine lF rfl rfl ?_)
  refine l_alloca rfl rfl fun b2 hb2 => ?_
  (repeat first | with_reducible (first | apply t_seq | apply t_region | apply t_block | apply t_ret | apply t_skip | apply t_exit | apply l_nil | apply x_then | apply x_pass_exit | apply x_pass_ret | apply x_block_ret | apply x_block_normal | apply x_block_here | apply x_block_out rfl) | refine lAv rfl ?_ | refine l_no rfl ?_ | refine tT rfl rfl ?_ | refine tF rfl rfl ?_ | refine lT rfl rfl ?_ | refine lF rfl rfl ?_)
  refine l_perm (bring2 _ _ _ _) ?_
  refine l_perm (bring2 _ _ _ _) ?_
  refine l_opg rfl (o_cu (pre := [opI b a c st, D]) rfl (by kernel_rfl) rfl (by simp [opI_stable, hsD]) (fun w1 hw1 hh1 ha1 => takeH_calls b a c st D hsD hD hz w1 hh1 ha1)) fun ⟨x, hx⟩ => ?_
  refine l_op rfl (ho_perm (bring2 _ _ _ _) (o_storea (cs' := (bytesV (hash32 (opT 32 st).1)).toArray) rfl rfl rfl (by rw [List.size_toArray, hv]; rfl) (bytesV_one _) (by rw [List.size_toArray, hv]; rfl))) fun _ => ?_
  (repeat first | with_reducible (first | apply t_seq | apply t_region | apply t_block | apply t_ret | apply t_skip | apply t_exit | apply l_nil | apply x_then | apply x_pass_exit | apply x_pass_ret | apply x_block_ret | apply x_block_normal | apply x_block_here | apply x_block_out rfl) | refine lAv rfl ?_ | refine l_no rfl ?_ | refine tT rfl rfl ?_ | refine tF rfl rfl ?_ | refine lT rfl rfl ?_ | refine lF rfl rfl ?_)
  exact x_ct x rfl ⟨_, rfl, loada_run (by rw [List.size_toArray, hv]; rfl) (.head _)⟩ rfl hx (.cons _ (.refl _)) (by simp [opI_stable, hsD])
theorem left_calls (b : Nat) (a : Option Addr) (c : Nat) (st : Opn) (w : World) (hw : Here (opI b a c st) w) : Pu Tryz.prog 59 #[.pointer (some ⟨b, 0, none⟩)] w (.int .i64 st.1.length) := by
  refine pu_of [_] Tryz.func59 rfl rfl ?_
  simp only [argSlots]
  (repeat first | with_reducible (first | apply t_seq | apply t_region | apply t_block | apply t_ret | apply t_skip | apply t_exit | apply l_nil | apply x_then | apply x_pass_exit | apply x_pass_ret | apply x_block_ret | apply x_block_normal | apply x_block_here | apply x_block_out rfl) | refine lAv rfl ?_ | refine l_no rfl ?_ | refine tT rfl rfl ?_ | refine tF rfl rfl ?_ | refine lT rfl rfl ?_ | refine lF rfl rfl ?_)
  refine l_w rfl (v_load0 rfl rfl (fun h => h) (cell_pt hw.1 rfl)) ?_
  (repeat first | with_reducible (first | apply t_seq | apply t_region | apply t_block | apply t_ret | apply t_skip | apply t_exit | apply l_nil | apply x_then | apply x_pass_exit | apply x_pass_ret | apply x_block_ret | apply x_block_normal | apply x_block_here | apply x_block_out rfl) | refine lAv rfl ?_ | refine l_no rfl ?_ | refine tT rfl rfl ?_ | refine tF rfl rfl ?_ | refine lT rfl rfl ?_ | refine lF rfl rfl ?_)
  exact x_pu rfl rfl rfl
theorem err_calls (b : Nat) (a : Option Addr) (c : Nat) (st : Opn) (w : World) (hw : Here (opI b a c st) w) : Pu Tryz.prog 37 #[.pointer (some ⟨b, 0, none⟩)] w (.int .i64 ((if st.2 then 3 else 0 : Nat) : Int)) := by
  refine pu_of [_] Tryz.func37 rfl rfl ?_
  simp only [argSlots]
  (repeat first | with_reducible (first | apply t_seq | apply t_region | apply t_block | apply t_ret | apply t_skip | apply t_exit | apply l_nil | apply x_then | apply x_pass_exit | apply x_pass_ret | apply x_block_ret | apply x_block_normal | apply x_block_here | apply x_block_out rfl) | refine lAv rfl ?_ | refine l_no rfl ?_ | refine tT rfl rfl ?_ | refine tF rfl rfl ?_ | refine lT rfl rfl ?_ | refine lF rfl rfl ?_)
  refine l_w rfl (v_load0 rfl rfl (fun h => h) (cell_pt hw.1 rfl)) ?_
  (repeat first | with_reducible (first | apply t_seq | apply t_region | apply t_block | apply t_ret | apply t_skip | apply t_exit | apply l_nil | apply x_then | apply x_pass_exit | apply x_pass_ret | apply x_block_ret | apply x_block_normal | apply x_block_here | apply x_block_out rfl) | refine lAv rfl ?_ | refine l_no rfl ?_ | refine tT rfl rfl ?_ | refine tF rfl rfl ?_ | refine lT rfl rfl ?_ | refine lF rfl rfl ?_)
  exact x_pu rfl rfl rfl
theorem end_calls (b : Nat) (a : Option Addr) (c : Nat) (st : Opn) (w : World) (hw : Here (opI b a c st) w) : Pu Tryz.prog 62 #[.pointer (some ⟨b, 0, none⟩)] w (.int .i64 ((if st = ([], false) then 0 else 3 : Nat) : Int)) := by
  refine pu_of [_] Tryz.func62 rfl rfl ?_
  simp only [argSlots]
  (repeat first | with_reducible (first | apply t_seq | apply t_region | apply t_block | apply t_ret | apply t_skip | apply t_exit | apply l_nil | apply x_then | apply x_pass_exit | apply x_pass_ret | apply x_block_ret | apply x_block_normal | apply x_block_here | apply x_block_out rfl) | refine lAv rfl ?_ | refine l_no rfl ?_ | refine tT rfl rfl ?_ | refine tF rfl rfl ?_ | refine lT rfl rfl ?_ | refine lF rfl rfl ?_)
  refine l_opg rfl (o_pure rfl (by kernel_rfl) rfl (fun w1 hw1 => err_calls b a c st w1 (hw.fr hw1.fr))) fun _ => ?_
  obtain ⟨r, bad⟩ := st
  cases bad with
  | true =>
    simp only [if_true, show ¬ (r, true) = (([], false) : Opn) from fun h => (by cases h), if_false]
    (repeat first | with_reducible (first | apply t_seq | apply t_region | apply t_block | apply t_ret | apply t_skip | apply t_exit | apply l_nil | apply x_then | apply x_pass_exit | apply x_pass_ret | apply x_block_ret | apply x_block_normal | apply x_block_here | apply x_block_out rfl) | refine lAv rfl ?_ | refine l_no rfl ?_ | refine tT rfl rfl ?_ | refine tF rfl rfl ?_ | refine lT rfl rfl ?_ | refine lF rfl rfl ?_)
    exact x_pu rfl rfl rfl
  | false =>
    simp only [if_neg Bool.false_ne_true]
    (repeat first | with_reducible (first | apply t_seq | apply t_region | apply t_block | apply t_ret | apply t_skip | apply t_exit | apply l_nil | apply x_then | apply x_pass_exit | apply x_pass_ret | apply x_block_ret | apply x_block_normal | apply x_block_here | apply x_block_out rfl) | refine lAv rfl ?_ | refine l_no rfl ?_ | refine tT rfl rfl ?_ | refine tF rfl rfl ?_ | refine lT rfl rfl ?_ | refine lF rfl rfl ?_)
    refine l_opg rfl (o_pure rfl (by kernel_rfl) rfl (fun w1 hw1 => left_calls b a c (r, false) w1 (hw.fr hw1.fr))) fun _ => ?_
    cases r with
    | nil =>
      simp only [if_true, List.length_nil]
      (repeat first | with_reducible (first | apply t_seq | apply t_region | apply t_block | apply t_ret | apply t_skip | apply t_exit | apply l_nil | apply x_then | apply x_pass_exit | apply x_pass_ret | apply x_block_ret | apply x_block_normal | apply x_block_here | apply x_block_out rfl) | refine lAv rfl ?_ | refine l_no rfl ?_ | refine tT rfl rfl ?_ | refine tF rfl rfl ?_ | refine lT rfl rfl ?_ | refine lF rfl rfl ?_)
      exact x_pu rfl rfl rfl
    | cons x r =>
      simp only [show ¬ (x :: r, false) = (([], false) : Opn) from fun h => (by cases h), if_false, List.length_cons]
      (repeat first | with_reducible (first | apply t_seq | apply t_region | apply t_block | apply t_ret | apply t_skip | apply t_exit | apply l_nil | apply x_then | apply x_pass_exit | apply x_pass_ret | apply x_block_ret | apply x_block_normal | apply x_block_here | apply x_block_out rfl) | refine lAv rfl ?_ | refine l_no rfl ?_ | refine tT rfl rfl ?_ | refine tF rfl rfl ?_ | refine lT rfl rfl ?_ | refine lF rfl rfl ?_)
      exact x_pu rfl rfl rfl
theorem Of_calls (a : Option Addr) (n c : Nat) (bs : Bys) (hn : bs.length = n) (hz : n ≤ 1000000000) (w : World) (hr : Rd w a (bytesV bs)) :
    Ct Tryz.prog 33 #[.slice a n c] w none' (fun p : Nat × Option (Nat × Nat) => .pointer (some ⟨p.1, 0, none⟩)) (fun p => OpOk (own 5 1 p.2 n (bytesV bs)) (slA p.2) (slC p.2) bs) (fun p => [opI p.1 (slA p.2) (slC p.2) (bs, false), own 5 1 p.2 n (bytesV bs)]) := by
  refine ct_of [_] Tryz.func33 rfl rfl ?_
  simp only [argSlots]
  (repeat first | with_reducible (first | apply t_seq | apply t_region | apply t_block | apply t_ret | apply t_skip | apply t_exit | apply l_nil | apply x_then | apply x_pass_exit | apply x_pass_ret | apply x_block_ret | apply x_block_normal | apply x_block_here | apply x_block_out rfl) | refine lAv rfl ?_ | refine l_no rfl ?_ | refine tT rfl rfl ?_ | refine tF rfl rfl ?_ | refine lT rfl rfl ?_ | refine lF rfl rfl ?_)
  refine l_ctg rfl rfl (by kernel_rfl) rfl (fun w1 hw1 => clone_calls a n c bs hn hz w1 (hr.keep hw1)) fun x hx => ?_
  refine l_fact (fun w hw => (own_val (hw.item (own 5 1 x n (bytesV bs)) (by simp)).1)) fun ⟨hsl, hcap⟩ => ?_
  rw [hsl]
  (repeat first | with_reducible (first | apply t_seq | apply t_region | apply t_block | apply t_ret | apply t_skip | apply t_exit | apply l_nil | apply x_then | apply x_pass_exit | apply x_pass_ret | apply x_block_ret | apply x_block_normal | apply x_block_here | apply x_block_out rfl) | refine lAv rfl ?_ | refine l_no rfl ?_ | refine tT rfl rfl ?_ | refine tF rfl rfl ?_ | refine lT rfl rfl ?_ | refine lF rfl rfl ?_)
  refine l_boxa rfl rfl fun b hb => ?_
  (repeat first | with_reducible (first | apply t_seq | apply t_region | apply t_block | apply t_ret | apply t_skip | apply t_exit | apply l_nil | apply x_then | apply x_pass_exit | apply x_pass_ret | apply x_block_ret | apply x_block_normal | apply x_block_here | apply x_block_out rfl) | refine lAv rfl ?_ | refine l_no rfl ?_ | refine tT rfl rfl ?_ | refine tF rfl rfl ?_ | refine lT rfl rfl ?_ | refine lF rfl rfl ?_)
  subst hn
  exact x_ct (b, x) rfl rfl rfl ⟨hcap, fun w hw => own_Rd hw⟩ (.refl _) (by simp [own_stable, opI_stable])
end Go.Proofs.YtdkonngkbbgcgaaGreatDoor
