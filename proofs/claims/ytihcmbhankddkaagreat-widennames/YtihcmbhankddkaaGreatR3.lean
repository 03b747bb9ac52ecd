/-
  Calls of the law's run, run by the kernel.
-/
import Derived.Test.YtihcmbhankddkaaGreatMt
import Derived.KernelRfl
namespace Go.Proofs.YtihcmbhankddkaaGreat.Ev
open Go
set_option maxRecDepth 1000000
set_option linter.all false
theorem run24 : isSm (runM 24 (.fn me24.f me24.args) me24.start (toldK me24)) = true := by kernel_rfl
theorem run25 : isSm (runM 25 (.fn me25.f me25.args) me25.start (toldK me25)) = true := by kernel_rfl
theorem run26 : isSm (runM 26 (.fn me26.f me26.args) me26.start (toldK me26)) = true := by kernel_rfl
theorem run27 : isSm (runM 27 (.fn me27.f me27.args) me27.start (toldK me27)) = true := by kernel_rfl
theorem run28 : isSm (runM 28 (.fn me28.f me28.args) me28.start (toldK me28)) = true := by kernel_rfl
theorem run29 : isSm (runM 29 (.fn me29.f me29.args) me29.start (toldK me29)) = true := by kernel_rfl
theorem run30 : isSm (runM 30 (.fn me30.f me30.args) me30.start (toldK me30)) = true := by kernel_rfl
theorem run31 : isSm (runM 31 (.fn me31.f me31.args) me31.start (toldK me31)) = true := by kernel_rfl
end Go.Proofs.YtihcmbhankddkaaGreat.Ev
