/- The document's chunks (armariumref12): a name of an opener; a copy of a text. -/
import Derived.Test.YtdkonngkbbgcgaaGreatDoorRtd
import Derived.Lib.BufferWrite
namespace Go.Eng
open Go.RowKit
theorem o_copys {P : Program} {Q : Exit → Act → World → Prop} {N : Fm} {l : Slots} {w0 : World} {F : Nat → Prop} {m : List Item} {ty : TypeId} {pos : String} {after : Array Edge} {g : Option (Nat × Bool)} {d : Nat} {dT sT e : TypeId} {x y : Operand} {b o n c : Nat} {cur : List Value} {t : TypeId} {s : List UInt8} (hok : okOp N l (.call ⟨.builtin .copy, #[x, y], #[dT, sT]⟩) d = true)
    (hx : evO l x = some (.slice (some ⟨b, o, none⟩) n c)) (hy : evO l y = some (.string ⟨s.toArray⟩)) (hT : sliE P dT = some e) (he : cellsT P e = some 1) (hle : s.length ≤ n) (hfit : o + s.length ≤ cur.length) :
    HO P ⟨some d, .call ⟨.builtin .copy, #[x, y], #[dT, sT]⟩, ty, pos, after, g⟩ Q N l (Hp w0 F (pt b (.cells cur.toArray t (0, 0)) :: m)) (α := Unit) (fun _ => (d, .int .i64 (s.length : Nat)) :: l) (fun _ => Hp w0 F (pt b (.cells (put cur o (bytesV s)).toArray t (0, 0)) :: m)) :=
  o_mem (val := fun _ => .int .i64 (s.length : Nat)) hok (fun w hw => by
    obtain ⟨i, hi, his⟩ := cellsT_spec he
    have hsz : (⟨s.toArray⟩ : ByteArray).size = s.length := by simp [ByteArray.size]
    have hr := Lib.run_copy_row_string (P := P) w dT sT ty e b o n c ⟨s.toArray⟩ cur.toArray t (sliE_spec hT) (by rw [hi, Option.map_some, his]) (hw.get (by simp)) (by rw [hsz]; exact hle) (by rw [hsz]; simpa using hfit)
    have hp : (cur.toArray.toList.take o ++ Lib.byteCells (⟨s.toArray⟩ : ByteArray).data.toList ++ cur.toArray.toList.drop (o + (⟨s.toArray⟩ : ByteArray).size)) = put cur o (bytesV s) := by
      unfold put
      rw [hsz]
      simp [bytesV, Lib.byteCells]
    rw [hp] at hr
    refine ⟨(), _, ?_, hw.setRow _⟩
    simp only [execOp, resolve, invoke, builtin]
    simp [ev_of hx, ev_of hy, hr, goInt, hsz])
end Go.Eng
namespace Go.Proofs.YtdkonngkbbgcgaaGreatDoor
open Go.RowKit Go.Eng
set_option maxRecDepth 100000
set_option maxHeartbeats 40000000
theorem rname_calls (o : Opn) (hz : o.1.length ≤ 1000000000) (w : World) : Pu Tryz.prog 56 #[opA o] w (.tuple #[.string ⟨(opName o).1.toArray⟩, opA (opName o).2]) := by
  obtain ⟨s, bad⟩ := o
  show Pu _ _ #[.agg #[.string ⟨s.toArray⟩, .bool bad]] _ _
  simp only at hz
  refine pu_of [_] Tryz.func56 rfl rfl ?_
  simp only [argSlots]
  have hsl := ba_len s
  (repeat first | with_reducible (first | apply t_seq | apply t_region | apply t_block | apply t_ret | apply t_skip | apply t_exit | apply l_nil | apply x_then | apply x_pass_exit | apply x_pass_ret | apply x_block_ret | apply x_block_normal | apply x_block_here | apply x_block_out rfl) | refine lAv rfl ?_ | refine l_no rfl ?_ | refine tT rfl rfl ?_ | refine tF rfl rfl ?_ | refine lT rfl rfl ?_ | refine lF rfl rfl ?_)
  refine l_boxa rfl rfl fun b1 hb1 => ?_
  (repeat first | with_reducible (first | apply t_seq | apply t_region | apply t_block | apply t_ret | apply t_skip | apply t_exit | apply l_nil | apply x_then | apply x_pass_exit | apply x_pass_ret | apply x_block_ret | apply x_block_normal | apply x_block_here | apply x_block_out rfl) | refine lAv rfl ?_ | refine l_no rfl ?_ | refine tT rfl rfl ?_ | refine tF rfl rfl ?_ | refine lT rfl rfl ?_ | refine lF rfl rfl ?_)
  refine l_alloca rfl rfl fun b3 hb3 => ?_
  (repeat first | with_reducible (first | apply t_seq | apply t_region | apply t_block | apply t_ret | apply t_skip | apply t_exit | apply l_nil | apply x_then | apply x_pass_exit | apply x_pass_ret | apply x_block_ret | apply x_block_normal | apply x_block_here | apply x_block_out rfl) | refine lAv rfl ?_ | refine l_no rfl ?_ | refine tT rfl rfl ?_ | refine tF rfl rfl ?_ | refine lT rfl rfl ?_ | refine lF rfl rfl ?_)
  cases bad with
  | true =>
    have e : opName (s, true) = ([], (s, true)) := rfl
    rw [e]
    refine t_drawp (by kernel_rfl) ?_
    (repeat first | refine dAv [] rfl rfl rfl ?_ | refine dno [] rfl rfl rfl ?_ | refine dT [] rfl rfl rfl rfl ?_ | refine dF [] rfl rfl rfl rfl ?_)
    refine d_end (by kernel_rfl) ?_
    (repeat first | with_reducible (first | apply t_seq | apply t_region | apply t_block | apply t_ret | apply t_skip | apply t_exit | apply l_nil | apply x_then | apply x_pass_exit | apply x_pass_ret | apply x_block_ret | apply x_block_normal | apply x_block_here | apply x_block_out rfl) | refine lAv rfl ?_ | refine l_no rfl ?_ | refine tT rfl rfl ?_ | refine tF rfl rfl ?_ | refine lT rfl rfl ?_ | refine lF rfl rfl ?_)
    refine t_drawm [0, 1] 4 rfl rfl (by kernel_rfl) ?_
    (repeat first | refine dAv [] rfl rfl rfl ?_ | refine dno [] rfl rfl rfl ?_ | refine dT [] rfl rfl rfl rfl ?_ | refine dF [] rfl rfl rfl rfl ?_)
    refine d_tail ⟨by kernel_rfl, by kernel_rfl⟩ rfl rfl (o_storea (cs' := #[.string ⟨s.toArray⟩, .bool true]) rfl rfl rfl rfl rfl rfl) fun _ => ?_
    (repeat first | with_reducible (first | apply t_seq | apply t_region | apply t_block | apply t_ret | apply t_skip | apply t_exit | apply l_nil | apply x_then | apply x_pass_exit | apply x_pass_ret | apply x_block_ret | apply x_block_normal | apply x_block_here | apply x_block_out rfl) | refine lAv rfl ?_ | refine l_no rfl ?_ | refine tT rfl rfl ?_ | refine tF rfl rfl ?_ | refine lT rfl rfl ?_ | refine lF rfl rfl ?_)
    exact x_pu2 rfl rfl ⟨_, rfl, loada_run rfl (.head _)⟩ rfl
  | false =>
    cases s with
    | nil =>
      have e : opName ([], false) = ([], ([], true)) := rfl
      rw [e]
      have hsl0 : (⟨([] : Bys).toArray⟩ : ByteArray).size = 0 := rfl
      refine t_drawp (by kernel_rfl) ?_
      (repeat first | refine dAv [] rfl rfl rfl ?_ | refine dno [] rfl rfl rfl ?_ | refine dT [] rfl rfl rfl rfl ?_ | refine dF [] rfl rfl rfl rfl ?_)
      refine d_end (by kernel_rfl) ?_
      (repeat first | with_reducible (first | apply t_seq | apply t_region | apply t_block | apply t_ret | apply t_skip | apply t_exit | apply l_nil | apply x_then | apply x_pass_exit | apply x_pass_ret | apply x_block_ret | apply x_block_normal | apply x_block_here | apply x_block_out rfl) | refine lAv rfl ?_ | refine l_no rfl ?_ | refine tT rfl rfl ?_ | refine tF rfl rfl ?_ | refine lT rfl rfl ?_ | refine lF rfl rfl ?_)
      refine t_drawm [0, 1] 4 rfl rfl (by kernel_rfl) ?_
      (repeat first | refine dAv [] rfl rfl rfl ?_ | refine dno [] rfl rfl rfl ?_ | refine dT [] rfl rfl rfl rfl ?_ | refine dF [] rfl rfl rfl rfl ?_)
      refine d_tail ⟨by kernel_rfl, by kernel_rfl⟩ rfl rfl (o_storea (cs' := #[.string ⟨#[]⟩, .bool true]) rfl rfl rfl rfl rfl rfl) fun _ => ?_
      (repeat first | with_reducible (first | apply t_seq | apply t_region | apply t_block | apply t_ret | apply t_skip | apply t_exit | apply l_nil | apply x_then | apply x_pass_exit | apply x_pass_ret | apply x_block_ret | apply x_block_normal | apply x_block_here | apply x_block_out rfl) | refine lAv rfl ?_ | refine l_no rfl ?_ | refine tT rfl rfl ?_ | refine tF rfl rfl ?_ | refine lT rfl rfl ?_ | refine lF rfl rfl ?_)
      exact x_pu2 rfl rfl ⟨_, rfl, loada_run rfl (.head _)⟩ rfl
    | cons c r =>
      rw [List.length_cons] at hsl hz
      have hc := c.toNat_lt
      refine t_drawp (by kernel_rfl) ?_
      (repeat first | refine dAv [] rfl rfl rfl ?_ | refine dno [] rfl rfl rfl ?_ | refine dT [] rfl rfl rfl rfl ?_ | refine dF [] rfl rfl rfl rfl ?_)
      refine d_say 16 _ (.int .u8 (c.toNat : Int)) rfl rfl ?_
      (repeat first | refine dAv [] rfl rfl rfl ?_ | refine dno [] rfl rfl rfl ?_ | refine dT [] rfl rfl rfl rfl ?_ | refine dF [] rfl rfl rfl rfl ?_)
      refine d_end (by kernel_rfl) ?_
      by_cases h : r.length < c.toNat
      · have e : opName (c :: r, false) = ([], (c :: r, true)) := by unfold opName; simp only [if_neg Bool.false_ne_true, if_pos h]
        rw [e]
        (repeat first | with_reducible (first | apply t_seq | apply t_region | apply t_block | apply t_ret | apply t_skip | apply t_exit | apply l_nil | apply x_then | apply x_pass_exit | apply x_pass_ret | apply x_block_ret | apply x_block_normal | apply x_block_here | apply x_block_out rfl) | refine lAv rfl ?_ | refine l_no rfl ?_ | refine tT rfl rfl ?_ | refine tF rfl rfl ?_ | refine lT rfl rfl ?_ | refine lF rfl rfl ?_)
        refine t_drawm [0, 1] 4 rfl rfl (by kernel_rfl) ?_
        (repeat first | refine dAv [] rfl rfl rfl ?_ | refine dno [] rfl rfl rfl ?_ | refine dT [] rfl rfl rfl rfl ?_ | refine dF [] rfl rfl rfl rfl ?_)
        refine d_tail ⟨by kernel_rfl, by kernel_rfl⟩ rfl rfl (o_storea (cs' := #[.string ⟨(c :: r).toArray⟩, .bool true]) rfl rfl rfl rfl rfl rfl) fun _ => ?_
        (repeat first | with_reducible (first | apply t_seq | apply t_region | apply t_block | apply t_ret | apply t_skip | apply t_exit | apply l_nil | apply x_then | apply x_pass_exit | apply x_pass_ret | apply x_block_ret | apply x_block_normal | apply x_block_here | apply x_block_out rfl) | refine lAv rfl ?_ | refine l_no rfl ?_ | refine tT rfl rfl ?_ | refine tF rfl rfl ?_ | refine lT rfl rfl ?_ | refine lF rfl rfl ?_)
        exact x_pu2 rfl rfl ⟨_, rfl, loada_run rfl (.head _)⟩ rfl
      · have e : opName (c :: r, false) = (r.take c.toNat, (r.drop c.toNat, false)) := by unfold opName; simp only [if_neg Bool.false_ne_true, if_neg h]
        rw [e]
        have e1 : (⟨(c :: r).toArray⟩ : ByteArray).extract 1 (1 + c.toNat) = ⟨(r.take c.toNat).toArray⟩ := by
          rw [ext_mid (c :: r) 1 (1 + c.toNat) (by rw [List.length_cons]; omega), Nat.add_comm 1, List.take_succ_cons, List.drop_one, List.tail_cons]
        have e2 : (⟨(c :: r).toArray⟩ : ByteArray).extract (1 + c.toNat) (⟨(c :: r).toArray⟩ : ByteArray).size = ⟨(r.drop c.toNat).toArray⟩ := by
          rw [ext_drop, Nat.add_comm 1, List.drop_succ_cons]
        (repeat first | with_reducible (first | apply t_seq | apply t_region | apply t_block | apply t_ret | apply t_skip | apply t_exit | apply l_nil | apply x_then | apply x_pass_exit | apply x_pass_ret | apply x_block_ret | apply x_block_normal | apply x_block_here | apply x_block_out rfl) | refine lAv rfl ?_ | refine l_no rfl ?_ | refine tT rfl rfl ?_ | refine tF rfl rfl ?_ | refine lT rfl rfl ?_ | refine lF rfl rfl ?_)
        refine l_say 29 _ (.int .u8 (c.toNat : Int)) rfl rfl ?_
        (repeat first | with_reducible (first | apply t_seq | apply t_region | apply t_block | apply t_ret | apply t_skip | apply t_exit | apply l_nil | apply x_then | apply x_pass_exit | apply x_pass_ret | apply x_block_ret | apply x_block_normal | apply x_block_here | apply x_block_out rfl) | refine lAv rfl ?_ | refine l_no rfl ?_ | refine tT rfl rfl ?_ | refine tF rfl rfl ?_ | refine lT rfl rfl ?_ | refine lF rfl rfl ?_)
        refine t_drawm [0, 1] 12 rfl rfl (by kernel_rfl) ?_
        (repeat first | refine dAv [] rfl rfl rfl ?_ | refine dno [] rfl rfl rfl ?_ | refine dT [] rfl rfl rfl rfl ?_ | refine dF [] rfl rfl rfl rfl ?_)
        refine d_say 2 _ (.string ⟨(r.take c.toNat).toArray⟩) rfl (congrArg Value.string e1) ?_
        refine d_say 41 _ (.agg #[.string ⟨(r.drop c.toNat).toArray⟩, .bool false]) rfl (by rw [e2]; rfl) ?_
        refine d_tail ⟨by kernel_rfl, by kernel_rfl⟩ rfl rfl (o_storea (cs' := #[.string ⟨(r.drop c.toNat).toArray⟩, .bool false]) rfl rfl rfl rfl rfl rfl) fun _ => ?_
        (repeat first | with_reducible (first | apply t_seq | apply t_region | apply t_block | apply t_ret | apply t_skip | apply t_exit | apply l_nil | apply x_then | apply x_pass_exit | apply x_pass_ret | apply x_block_ret | apply x_block_normal | apply x_block_here | apply x_block_out rfl) | refine lAv rfl ?_ | refine l_no rfl ?_ | refine tT rfl rfl ?_ | refine tF rfl rfl ?_ | refine lT rfl rfl ?_ | refine lF rfl rfl ?_)
        exact x_pu2 rfl rfl ⟨_, rfl, loada_run rfl (.head _)⟩ rfl
theorem opN_cons (c : UInt8) (r : Bys) : opN 1 (c :: r, false) = (c.toNat, (r, false)) := by simp [opN, opT, beV]
theorem chk_nil : chkF [] = none := by
  unfold chkF
  rw [if_neg]
  intro h
  have := congrArg (fun o => o.2) h.2.2
  cases this
theorem chk_two (b : Bys) : chkF b = if mayC (parC b).1 = true ∧ putC (parC b).1 = b then some (parC b).1 else none := by
  unfold chkF
  by_cases h : mayC (parC b).1 = true ∧ putC (parC b).1 = b
  · have hm := mayC_iff.1 h.1
    have hk : (parC b).1.kind = 1 ∨ (parC b).1.kind = 2 ∨ (parC b).1.kind = 3 := by
      rcases hm.2.2 with ⟨h, -⟩ | ⟨h, -⟩ | ⟨h, -⟩
      · exact .inl h
      · exact .inr (.inl h)
      · exact .inr (.inr h)
    have hn : (parC b).1.kind = 3 → ∀ k ∈ (parC b).1.kids, k.name ≠ [] := fun h3 k hk => by
      rcases hm.2.2 with ⟨h, -⟩ | ⟨h, -⟩ | ⟨-, h, -⟩
      · omega
      · omega
      · obtain ⟨i, hi, rfl⟩ := List.getElem_of_mem hk
        exact (h i _ (List.getElem?_eq_getElem hi)).1
    rw [if_pos ⟨h.1, h.2, put_whole hk hn h.2⟩, if_pos h]
  · rw [if_neg (fun h' => h ⟨h'.1, h'.2.1⟩), if_neg h]
end Go.Proofs.YtdkonngkbbgcgaaGreatDoor
