/-
  Calls of the law's run, run by the kernel.
-/
import Derived.Test.YtihcmbhankddkadGreatMt
import Derived.KernelRfl
namespace Go.Proofs.YtihcmbhankddkadGreat.Ev
open Go
set_option maxRecDepth 1000000
set_option linter.all false
theorem run32 : isSm (runM 32 (.fn me32.f me32.args) me32.start (toldK me32)) = true := by kernel_rfl
theorem run33 : isSm (runM 33 (.fn me33.f me33.args) me33.start (toldK me33)) = true := by kernel_rfl
theorem run34 : isSm (runM 34 (.fn me34.f me34.args) me34.start (toldK me34)) = true := by kernel_rfl
theorem run35 : isSm (runM 35 (.fn me35.f me35.args) me35.start (toldK me35)) = true := by kernel_rfl
theorem run36 : isSm (runM 36 (.fn me36.f me36.args) me36.start (toldK me36)) = true := by kernel_rfl
theorem run37 : isSm (runM 37 (.fn me37.f me37.args) me37.start (toldK me37)) = true := by kernel_rfl
theorem run38 : isSm (runM 38 (.fn me38.f me38.args) me38.start (toldK me38)) = true := by kernel_rfl
theorem run39 : isSm (runM 39 (.fn me39.f me39.args) me39.start (toldK me39)) = true := by kernel_rfl
theorem run40 : isSm (runM 40 (.fn me40.f me40.args) me40.start (toldK me40)) = true := by kernel_rfl
theorem run41 : isSm (runM 41 (.fn me41.f me41.args) me41.start (toldK me41)) = true := by kernel_rfl
theorem run42 : isSm (runM 42 (.fn me42.f me42.args) me42.start (toldK me42)) = true := by kernel_rfl
theorem run43 : isSm (runM 43 (.fn me43.f me43.args) me43.start (toldK me43)) = true := by kernel_rfl
theorem run44 : isSm (runM 44 (.fn me44.f me44.args) me44.start (toldK me44)) = true := by kernel_rfl
theorem run45 : isSm (runM 45 (.fn me45.f me45.args) me45.start (toldK me45)) = true := by kernel_rfl
theorem run46 : isSm (runM 46 (.fn me46.f me46.args) me46.start (toldK me46)) = true := by kernel_rfl
theorem run47 : isSm (runM 47 (.fn me47.f me47.args) me47.start (toldK me47)) = true := by kernel_rfl
end Go.Proofs.YtihcmbhankddkadGreat.Ev
