/-
  Calls of the law's run, run by the kernel.
-/
import Derived.Test.YtihcmbhankddkaaGreatMt
import Derived.KernelRfl
namespace Go.Proofs.YtihcmbhankddkaaGreat.Ev
open Go
set_option maxRecDepth 1000000
set_option linter.all false
theorem run32 : isSm (runM 32 (.fn me32.f me32.args) me32.start (toldK me32)) = true := by kernel_rfl
theorem run33 : isSm (runM 33 (.fn me33.f me33.args) me33.start (toldK me33)) = true := by kernel_rfl
theorem run34 : isSm (runM 34 (.fn me34.f me34.args) me34.start (toldK me34)) = true := by kernel_rfl
theorem run35 : isSm (runM 35 (.fn me35.f me35.args) me35.start (toldK me35)) = true := by kernel_rfl
theorem run36 : isSm (runM 36 (.fn me36.f me36.args) me36.start (toldK me36)) = true := by kernel_rfl
end Go.Proofs.YtihcmbhankddkaaGreat.Ev
