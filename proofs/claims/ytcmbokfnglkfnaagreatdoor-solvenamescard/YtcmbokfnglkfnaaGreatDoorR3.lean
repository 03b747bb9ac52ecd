/-
  Calls of the law's run, run by the kernel.
-/
import Derived.Test.YtcmbokfnglkfnaaGreatDoorMt
import Derived.KernelRfl
namespace Go.Proofs.YtcmbokfnglkfnaaGreatDoor.Ev
open Go
set_option maxRecDepth 1000000
set_option maxHeartbeats 4000000
set_option linter.all false
theorem run74 : isSm (runM tr74 tp74 74 (.fn me74.f me74.args) me74.start (toldK me74)) = true := by kernel_rfl
end Go.Proofs.YtcmbokfnglkfnaaGreatDoor.Ev
