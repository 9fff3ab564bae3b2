/-
MiniNames: awake, a closed run.
-/
import Derived.Test.YtcphlgkfboafoaaGreatDoorM0
set_option linter.unusedVariables false
namespace Go.Proofs.Mn
open Go Go.Am
theorem awake_run (m : Int) : (@Bool.rec (fun _ => Prop) False True (ecall P (cfgOf m ext0) (force false) 3000 12 [] none0 testT)) = True := by kernel_rfl
end Go.Proofs.Mn
