/- package pack, the opener: a name. -/
import Derived.Test.YtdkonngkbbgcgaaGreatDoorPkb
namespace Go.Proofs.YtdkonngkbbgcgaaGreatDoor
open Go.RowKit Go.Eng
set_option maxRecDepth 100000
set_option maxHeartbeats 40000000
theorem Rd.at0 {w : World} {b off : Nat} {x : UInt8} {r : Bys} (h : Rd w (some ⟨b, off, none⟩) (bytesV (x :: r))) : w.cell? ⟨b, off + 0, none⟩ = some (.int .u8 (x.toNat : Int)) := by
  obtain ⟨b2, off2, e, h2⟩ := h.byte (i := 0) (by simp)
  cases e
  exact h2
theorem opName_bad (r : Bys) : opName (r, true) = ([], (r, true)) := rfl
theorem opName_nil : opName ([], false) = ([], ([], true)) := rfl
theorem opName_short {x : UInt8} {r : Bys} (h : r.length < x.toNat) : opName (x :: r, false) = ([], (x :: r, true)) := by simp [opName, h]
theorem opName_long {x : UInt8} {r : Bys} (h : ¬ r.length < x.toNat) : opName (x :: r, false) = opT x.toNat (r, false) := by simp [opName, opT, h]
theorem opN_one (x : UInt8) (r : Bys) : opN 1 (x :: r, false) = (x.toNat, (r, false)) := by simp [opN, opT, beV]
theorem opN_badv (n : Nat) (r : Bys) : opN n (r, true) = (0, (r, true)) := by simp [opN, opT, beV]
theorem opN_nil : opN 1 (([] : Bys), false) = (0, ([], true)) := rfl
theorem oTakeE {b : Nat} {a : Option Addr} {c : Nat} {st : Opn} {n : Nat} {D : Eng.Item} (v : Nat) (st' : Opn) (he : opN n st = (v, st')) (hsD : D.Stable none') (hD : OpOk D a c st.1) (hn : n = 1 ∨ n = 2 ∨ n = 4) (hz : st.1.length ≤ 1000000000) {w : World} (hw : ∀ it ∈ [opI b a c st, D], Here it w) (ha : [opI b a c st, D].Pairwise Eng.Item.Apart) :
    Ct Tryz.prog 34 #[.pointer (some ⟨b, 0, none⟩), .int .i64 n] w (foots [opI b a c st, D]) (fun _ : Option Addr × Nat => .int .u64 (v : Nat)) (fun p => OpOk D p.1 p.2 st'.1) (fun p => [opI b p.1 p.2 st', D]) := by
  have := oTake_calls b a c st n D hsD hD hn hz w hw ha
  rw [he] at this; exact this
theorem oTextE {b : Nat} {a : Option Addr} {c : Nat} {st : Opn} {n : Nat} {D : Eng.Item} (t : Bys) (st' : Opn) (he : opT n st = (t, st')) (hsD : D.Stable none') (hD : OpOk D a c st.1) (hz : st.1.length ≤ 1000000000) {w : World} (hw : ∀ it ∈ [opI b a c st, D], Here it w) (ha : [opI b a c st, D].Pairwise Eng.Item.Apart) :
    Ct Tryz.prog 36 #[.pointer (some ⟨b, 0, none⟩), .int .i64 n] w (foots [opI b a c st, D]) (fun _ : Option Addr × Nat => .string ⟨t.toArray⟩) (fun p => OpOk D p.1 p.2 st'.1) (fun p => [opI b p.1 p.2 st', D]) := by
  have := oText_calls b a c st n D hsD hD hz w hw ha
  rw [he] at this; exact this
theorem oHashE {b : Nat} {a : Option Addr} {c : Nat} {st : Opn} {D : Eng.Item} (t : Bys) (st' : Opn) (he : opT 32 st = (t, st')) (hsD : D.Stable none') (hD : OpOk D a c st.1) (hz : st.1.length ≤ 1000000000) {w : World} (hw : ∀ it ∈ [opI b a c st, D], Here it w) (ha : [opI b a c st, D].Pairwise Eng.Item.Apart) :
    Ct Tryz.prog 35 #[.pointer (some ⟨b, 0, none⟩)] w (foots [opI b a c st, D]) (fun _ : Option Addr × Nat => hashV (hash32 t)) (fun p => OpOk D p.1 p.2 st'.1) (fun p => [opI b p.1 p.2 st', D]) := by
  have := oHash_calls b a c st D hsD hD hz w hw ha
  rw [he] at this; exact this
/-- The name, and how long it is ahead of it. -/
theorem oName_calls (b : Nat) (a : Option Addr) (c : Nat) (st : Opn) (D : Eng.Item) (hsD : D.Stable none') (hD : OpOk D a c st.1) (hz : st.1.length ≤ 1000000000) (w : World) (hw : ∀ it ∈ [opI b a c st, D], Here it w) (ha : [opI b a c st, D].Pairwise Eng.Item.Apart) :
    Ct Tryz.prog 60 #[.pointer (some ⟨b, 0, none⟩)] w (foots [opI b a c st, D]) (fun _ : Option Addr × Nat => .string ⟨(opName st).1.toArray⟩) (fun p => OpOk D p.1 p.2 (opName st).2.1) (fun p => [opI b p.1 p.2 (opName st).2, D]) := by
  refine cu_of [_] _ Tryz.func60 rfl rfl hw ha ?_
  simp only [argSlots]
  (repeat first | with_reducible (first | apply t_seq | apply t_region | apply t_block | apply t_ret | apply t_skip | apply t_exit | apply l_nil | apply x_then | apply x_pass_exit | apply x_pass_ret | apply x_block_ret | apply x_block_normal | apply x_block_here | apply x_block_out rfl) | refine lAv rfl ?_ | refine l_no rfl ?_ | refine tT rfl rfl ?_ | refine tF rfl rfl ?_ | refine lT rfl rfl ?_ | refine lF rfl rfl ?_)
  obtain ⟨r, bad⟩ := st
  cases r with
  | nil =>
    refine t_drawp (by kernel_rfl) ?_
    (repeat first | refine dAv [] rfl rfl rfl ?_ | refine dno [] rfl rfl rfl ?_ | refine dT [] rfl rfl rfl rfl ?_ | refine dF [] rfl rfl rfl rfl ?_)
    refine d_opg 1 ⟨by kernel_rfl, by decide⟩ rfl rfl (o_pure rfl (by kernel_rfl) rfl (fun w1 hw1 => left_calls b a c ([], bad) w1 ⟨(hw1.item _ (.head _)).1, opI_stable _ _ _ _, fun k hk => ((hw1.item _ (.head _)).2.2 k hk).1⟩)) (fun _ _ h => h) fun _ => ?_
    simp only [List.length_nil]
    (repeat first | refine dAv [] rfl rfl rfl ?_ | refine dno [] rfl rfl rfl ?_ | refine dT [] rfl rfl rfl rfl ?_ | refine dF [] rfl rfl rfl rfl ?_)
    refine d_end (by kernel_rfl) ?_
    (repeat first | with_reducible (first | apply t_seq | apply t_region | apply t_block | apply t_ret | apply t_skip | apply t_exit | apply l_nil | apply x_then | apply x_pass_exit | apply x_pass_ret | apply x_block_ret | apply x_block_normal | apply x_block_here | apply x_block_out rfl) | refine lAv rfl ?_ | refine l_no rfl ?_ | refine tT rfl rfl ?_ | refine tF rfl rfl ?_ | refine lT rfl rfl ?_ | refine lF rfl rfl ?_)
    have e : opN 1 (([] : Bys), bad) = (0, ([], true)) := by cases bad <;> rfl
    have e2 : opName (([] : Bys), bad) = ([], ([], true)) := by cases bad <;> rfl
    rw [e2]
    refine l_opg rfl (o_cu (pre := [opI b a c ([], bad), D]) rfl (by kernel_rfl) rfl (by simp [opI_stable, hsD]) (fun w1 hw1 hh1 ha1 => oTakeE 0 ([], true) e hsD hD (.inl rfl) (by simp) hh1 ha1)) fun ⟨x, hx⟩ => ?_
    (repeat first | with_reducible (first | apply t_seq | apply t_region | apply t_block | apply t_ret | apply t_skip | apply t_exit | apply l_nil | apply x_then | apply x_pass_exit | apply x_pass_ret | apply x_block_ret | apply x_block_normal | apply x_block_here | apply x_block_out rfl) | refine lAv rfl ?_ | refine l_no rfl ?_ | refine tT rfl rfl ?_ | refine tF rfl rfl ?_ | refine lT rfl rfl ?_ | refine lF rfl rfl ?_)
    refine l_opg rfl (o_cu (pre := [opI b x.1 x.2 ([], true), D]) rfl (by kernel_rfl) rfl (by simp [opI_stable, hsD]) (fun w1 hw1 hh1 ha1 => oTextE (n := 0) [] ([], true) rfl hsD hx (by simp) hh1 ha1)) fun ⟨y, hy⟩ => ?_
    (repeat first | with_reducible (first | apply t_seq | apply t_region | apply t_block | apply t_ret | apply t_skip | apply t_exit | apply l_nil | apply x_then | apply x_pass_exit | apply x_pass_ret | apply x_block_ret | apply x_block_normal | apply x_block_here | apply x_block_out rfl) | refine lAv rfl ?_ | refine l_no rfl ?_ | refine tT rfl rfl ?_ | refine tF rfl rfl ?_ | refine lT rfl rfl ?_ | refine lF rfl rfl ?_)
    exact x_ct y rfl rfl rfl hy (.refl _) (by simp [opI_stable, hsD])
  | cons x r =>
    have hrw := hD.2 w (hw D (by simp)).1
    obtain ⟨bb, off, rfl, hc0⟩ := hrw.byte (i := 0) (by simp)
    have hx0 : ∀ {F : Nat → Prop} {m : List Eng.Item} w', Hp w F m w' → D ∈ m → w'.cell? ⟨bb, off + 0, none⟩ = some (.int .u8 (x.toNat : Int)) := fun w' hw' hm => Rd.at0 (hD.2 w' (hw'.item D hm).1)
    have hxl := x.toNat_lt
    have hzr : r.length ≤ 1000000000 := by simp only [List.length_cons] at hz; omega
    obtain ⟨N1, hN1⟩ : ∃ n, (x :: r).length = n := ⟨_, rfl⟩
    have hN2 : N1 = r.length + 1 := by rw [← hN1]; rfl
    have hopI : opI b (some ⟨bb, off, none⟩) c (x :: r, bad) = opJ b (some ⟨bb, off, none⟩) N1 c (if bad then 3 else 0) := by rw [← hN1]; rfl
    rw [hopI]
    refine t_drawp (by kernel_rfl) ?_
    (repeat first | refine dAv [] rfl rfl rfl ?_ | refine dno [] rfl rfl rfl ?_ | refine dT [] rfl rfl rfl rfl ?_ | refine dF [] rfl rfl rfl rfl ?_)
    refine d_opg 1 ⟨by kernel_rfl, by decide⟩ rfl rfl (o_pure rfl (by kernel_rfl) rfl (fun w1 hw1 => left_calls b (some ⟨bb, off, none⟩) c (x :: r, bad) w1 (by rw [hopI]; exact ⟨(hw1.item _ (.head _)).1, pt_stable _ _ _, fun k hk => ((hw1.item _ (.head _)).2.2 k hk).1⟩))) (fun _ _ h => h) fun _ => ?_
    simp only [hN1]
    (repeat first | refine dAv [] rfl rfl rfl ?_ | refine dno [] rfl rfl rfl ?_ | refine dT [] rfl rfl rfl rfl ?_ | refine dF [] rfl rfl rfl rfl ?_)
    refine d_v [] rfl rfl (by kernel_rfl) (fun _ h => h) rfl rfl (v_load rfl rfl (fun w' hw' => hx0 w' hw' (by simp))) ?_
    (repeat first | refine dAv [] rfl rfl rfl ?_ | refine dno [] rfl rfl rfl ?_ | refine dT [] rfl rfl rfl rfl ?_ | refine dF [] rfl rfl rfl rfl ?_)
    refine d_end (by kernel_rfl) ?_
    rw [← hopI]
    cases bad with
    | true =>
      rw [opName_bad]
      (repeat first | with_reducible (first | apply t_seq | apply t_region | apply t_block | apply t_ret | apply t_skip | apply t_exit | apply l_nil | apply x_then | apply x_pass_exit | apply x_pass_ret | apply x_block_ret | apply x_block_normal | apply x_block_here | apply x_block_out rfl) | refine lAv rfl ?_ | refine l_no rfl ?_ | refine tT rfl rfl ?_ | refine tF rfl rfl ?_ | refine lT rfl rfl ?_ | refine lF rfl rfl ?_)
      refine t_if rfl rfl (fun h => ?_) (fun h => ?_)
      · (repeat first | with_reducible (first | apply t_seq | apply t_region | apply t_block | apply t_ret | apply t_skip | apply t_exit | apply l_nil | apply x_then | apply x_pass_exit | apply x_pass_ret | apply x_block_ret | apply x_block_normal | apply x_block_here | apply x_block_out rfl) | refine lAv rfl ?_ | refine l_no rfl ?_ | refine tT rfl rfl ?_ | refine tF rfl rfl ?_ | refine lT rfl rfl ?_ | refine lF rfl rfl ?_)
        refine l_opg rfl (o_cu (pre := [opI b (some ⟨bb, off, none⟩) c (x :: r, true), D]) rfl (by kernel_rfl) rfl (by simp [opI_stable, hsD]) (fun w1 hw1 hh1 ha1 => oTextM_calls b _ c (x :: r, true) D hsD hD w1 hh1 ha1)) fun _ => ?_
        (repeat first | with_reducible (first | apply t_seq | apply t_region | apply t_block | apply t_ret | apply t_skip | apply t_exit | apply l_nil | apply x_then | apply x_pass_exit | apply x_pass_ret | apply x_block_ret | apply x_block_normal | apply x_block_here | apply x_block_out rfl) | refine lAv rfl ?_ | refine l_no rfl ?_ | refine tT rfl rfl ?_ | refine tF rfl rfl ?_ | refine lT rfl rfl ?_ | refine lF rfl rfl ?_)
        exact x_ct (some ⟨bb, off, none⟩, c) rfl rfl rfl hD (.refl _) (by simp [opI_stable, hsD])
      · (repeat first | with_reducible (first | apply t_seq | apply t_region | apply t_block | apply t_ret | apply t_skip | apply t_exit | apply l_nil | apply x_then | apply x_pass_exit | apply x_pass_ret | apply x_block_ret | apply x_block_normal | apply x_block_here | apply x_block_out rfl) | refine lAv rfl ?_ | refine l_no rfl ?_ | refine tT rfl rfl ?_ | refine tF rfl rfl ?_ | refine lT rfl rfl ?_ | refine lF rfl rfl ?_)
        refine l_opg rfl (o_cu (pre := [opI b (some ⟨bb, off, none⟩) c (x :: r, true), D]) rfl (by kernel_rfl) rfl (by simp [opI_stable, hsD]) (fun w1 hw1 hh1 ha1 => oTakeE 0 (x :: r, true) (opN_badv 1 _) hsD hD (.inl rfl) hz hh1 ha1)) fun ⟨y, hy⟩ => ?_
        (repeat first | with_reducible (first | apply t_seq | apply t_region | apply t_block | apply t_ret | apply t_skip | apply t_exit | apply l_nil | apply x_then | apply x_pass_exit | apply x_pass_ret | apply x_block_ret | apply x_block_normal | apply x_block_here | apply x_block_out rfl) | refine lAv rfl ?_ | refine l_no rfl ?_ | refine tT rfl rfl ?_ | refine tF rfl rfl ?_ | refine lT rfl rfl ?_ | refine lF rfl rfl ?_)
        refine l_opg rfl (o_cu (pre := [opI b y.1 y.2 (x :: r, true), D]) rfl (by kernel_rfl) rfl (by simp [opI_stable, hsD]) (fun w1 hw1 hh1 ha1 => oTextE (n := 0) [] (x :: r, true) rfl hsD hy hz hh1 ha1)) fun ⟨z, hz2⟩ => ?_
        (repeat first | with_reducible (first | apply t_seq | apply t_region | apply t_block | apply t_ret | apply t_skip | apply t_exit | apply l_nil | apply x_then | apply x_pass_exit | apply x_pass_ret | apply x_block_ret | apply x_block_normal | apply x_block_here | apply x_block_out rfl) | refine lAv rfl ?_ | refine l_no rfl ?_ | refine tT rfl rfl ?_ | refine tF rfl rfl ?_ | refine lT rfl rfl ?_ | refine lF rfl rfl ?_)
        exact x_ct z rfl rfl rfl hz2 (.refl _) (by simp [opI_stable, hsD])
    | false =>
      by_cases hs : r.length < x.toNat
      · rw [opName_short hs]
        (repeat first | with_reducible (first | apply t_seq | apply t_region | apply t_block | apply t_ret | apply t_skip | apply t_exit | apply l_nil | apply x_then | apply x_pass_exit | apply x_pass_ret | apply x_block_ret | apply x_block_normal | apply x_block_here | apply x_block_out rfl) | refine lAv rfl ?_ | refine l_no rfl ?_ | refine tT rfl rfl ?_ | refine tF rfl rfl ?_ | refine lT rfl rfl ?_ | refine lF rfl rfl ?_)
        refine l_opg rfl (o_cu (pre := [opI b (some ⟨bb, off, none⟩) c (x :: r, false), D]) rfl (by kernel_rfl) rfl (by simp [opI_stable, hsD]) (fun w1 hw1 hh1 ha1 => oTextM_calls b _ c (x :: r, false) D hsD hD w1 hh1 ha1)) fun _ => ?_
        (repeat first | with_reducible (first | apply t_seq | apply t_region | apply t_block | apply t_ret | apply t_skip | apply t_exit | apply l_nil | apply x_then | apply x_pass_exit | apply x_pass_ret | apply x_block_ret | apply x_block_normal | apply x_block_here | apply x_block_out rfl) | refine lAv rfl ?_ | refine l_no rfl ?_ | refine tT rfl rfl ?_ | refine tF rfl rfl ?_ | refine lT rfl rfl ?_ | refine lF rfl rfl ?_)
        exact x_ct (some ⟨bb, off, none⟩, c) rfl rfl rfl hD (.refl _) (by simp [opI_stable, hsD])
      · rw [opName_long hs]
        (repeat first | with_reducible (first | apply t_seq | apply t_region | apply t_block | apply t_ret | apply t_skip | apply t_exit | apply l_nil | apply x_then | apply x_pass_exit | apply x_pass_ret | apply x_block_ret | apply x_block_normal | apply x_block_here | apply x_block_out rfl) | refine lAv rfl ?_ | refine l_no rfl ?_ | refine tT rfl rfl ?_ | refine tF rfl rfl ?_ | refine lT rfl rfl ?_ | refine lF rfl rfl ?_)
        refine l_opg rfl (o_cu (pre := [opI b (some ⟨bb, off, none⟩) c (x :: r, false), D]) rfl (by kernel_rfl) rfl (by simp [opI_stable, hsD]) (fun w1 hw1 hh1 ha1 => oTakeE x.toNat (r, false) (opN_one x r) hsD hD (.inl rfl) hz hh1 ha1)) fun ⟨y, hy⟩ => ?_
        (repeat first | with_reducible (first | apply t_seq | apply t_region | apply t_block | apply t_ret | apply t_skip | apply t_exit | apply l_nil | apply x_then | apply x_pass_exit | apply x_pass_ret | apply x_block_ret | apply x_block_normal | apply x_block_here | apply x_block_out rfl) | refine lAv rfl ?_ | refine l_no rfl ?_ | refine tT rfl rfl ?_ | refine tF rfl rfl ?_ | refine lT rfl rfl ?_ | refine lF rfl rfl ?_)
        refine l_opg rfl (o_cu (pre := [opI b y.1 y.2 (r, false), D]) rfl (by kernel_rfl) rfl (by simp [opI_stable, hsD]) (fun w1 hw1 hh1 ha1 => oText_calls b y.1 y.2 (r, false) x.toNat D hsD hy hzr w1 hh1 ha1)) fun ⟨z, hz2⟩ => ?_
        (repeat first | with_reducible (first | apply t_seq | apply t_region | apply t_block | apply t_ret | apply t_skip | apply t_exit | apply l_nil | apply x_then | apply x_pass_exit | apply x_pass_ret | apply x_block_ret | apply x_block_normal | apply x_block_here | apply x_block_out rfl) | refine lAv rfl ?_ | refine l_no rfl ?_ | refine tT rfl rfl ?_ | refine tF rfl rfl ?_ | refine lT rfl rfl ?_ | refine lF rfl rfl ?_)
        exact x_ct z rfl rfl rfl hz2 (.refl _) (by simp [opI_stable, hsD])
end Go.Proofs.YtdkonngkbbgcgaaGreatDoor
