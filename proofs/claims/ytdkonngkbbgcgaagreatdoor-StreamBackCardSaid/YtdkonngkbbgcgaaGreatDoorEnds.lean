/- package stream: a call that ended, without an error that was thrown. -/
import Derived.Test.YtdkonngkbbgcgaaGreatDoorChecked
import Derived.Test.YtdkonngkbbgcgaaGreatDoorDfr
namespace Go.Proofs.YtdkonngkbbgcgaaGreatDoor
open Go.RowKit Go.Eng
set_option maxRecDepth 100000
theorem ends_calls (e : Addr) (w : World) : CallsD Tryz.prog 42 #[.pointer (some e)] .returning w fun e u' w' => u' = .returning ∧ (∃ v, e = .returned v) ∧ Fr none' w w' := by
  refine callsD_of_wpS Tryz.func42 rfl fun c₀ cs hu => ?_
  apply wpS_seq
  apply wpS_region
  simp [wpOpsS, go_sem, recoverD, hu, Exit.thenS]
  apply wpS_seq
  apply wpS_region
  have hq : ∀ w, (eqGuard .neq 20 (.tmp 6) (.const .nilIface) .nilIface .nilIface).run Tryz.prog w = .ok () w := fun _ => rfl
  have hq2 : ∀ w, (binOp .neq 20 .nilIface .nilIface).run Tryz.prog w = .ok (.bool false) w := fun _ => rfl
  simp [wpOpsS, go_sem, hu, Exit.thenS, Act.eval, hq, hq2]
  refine wpS_cond (t := false) (by simp [Act.eval, Array.replicate]) ?_
  simp only [Bool.false_eq_true, if_false]
  refine wpS_of_wp (wp_skip ?_)
  cases c₀
  simp_all [bodyPostS, results]
  exact .refl _ _
end Go.Proofs.YtdkonngkbbgcgaaGreatDoor
