/- Node laws: the deferred closure does nothing where no panic is. -/
import Derived.Test.YtmdfjipjkkjpcaaSxT
import Derived.Test.YtmdfjipjkkjpcaaNw
namespace Go.Proofs.Ytmdfjipjkkjpcaa
open Go.SX

theorem idle91 : Idle Try.prog 91 2 := by
  intro cv w hcv
  refine ⟨run_callFunc ⟨_, _, Try.func91, rfl, rfl⟩ _ _, ?_⟩
  match cv, hcv with
  | [p, q], _ =>
    refine callsD_of_wpS Try.func91 rfl fun c₀ cs hu => ?_
    apply wpS_seq
    apply wpS_region
    simp [wpOpsS, go_sem, recoverD, hu, Exit.thenS]
    have hneq : ∀ w, (binOp .neq 20 .nilIface .nilIface).run Try.prog w = .ok (.bool false) w := fun _ => by kernel_rfl
    apply wpS_seq
    apply wpS_region
    simp [wpOpsS, go_sem, Exit.thenS, hneq]
    refine wpS_cond (t := false) (by simp [Act.eval, Array.replicate]) ?_
    simp only [Bool.false_eq_true, if_false]
    refine wpS_of_wp (wp_skip ?_)
    cases c₀
    simp_all [bodyPostS, results, Exit.thenS]
end Go.Proofs.Ytmdfjipjkkjpcaa
