/-
  Calls of the law's run, run by the kernel.
-/
import Derived.Test.YtihcmbhankddkabGreatMt
import Derived.KernelRfl
namespace Go.Proofs.YtihcmbhankddkabGreat.Ev
open Go
set_option maxRecDepth 1000000
set_option linter.all false
theorem run16 : isSm (runM 16 (.fn me16.f me16.args) me16.start (toldK me16)) = true := by kernel_rfl
theorem run17 : isSm (runM 17 (.fn me17.f me17.args) me17.start (toldK me17)) = true := by kernel_rfl
theorem run18 : isSm (runM 18 (.fn me18.f me18.args) me18.start (toldK me18)) = true := by kernel_rfl
theorem run19 : isSm (runM 19 (.fn me19.f me19.args) me19.start (toldK me19)) = true := by kernel_rfl
theorem run20 : isSm (runM 20 (.fn me20.f me20.args) me20.start (toldK me20)) = true := by kernel_rfl
end Go.Proofs.YtihcmbhankddkabGreat.Ev
