/-
  Calls of the law's run, run by the kernel.
-/
import Derived.Test.YtihcmbhankddkadGreatMt
import Derived.KernelRfl
namespace Go.Proofs.YtihcmbhankddkadGreat.Ev
open Go
set_option maxRecDepth 1000000
set_option linter.all false
theorem run16 : isSm (runM 16 (.fn me16.f me16.args) me16.start (toldK me16)) = true := by kernel_rfl
theorem run17 : isSm (runM 17 (.fn me17.f me17.args) me17.start (toldK me17)) = true := by kernel_rfl
theorem run18 : isSm (runM 18 (.fn me18.f me18.args) me18.start (toldK me18)) = true := by kernel_rfl
theorem run19 : isSm (runM 19 (.fn me19.f me19.args) me19.start (toldK me19)) = true := by kernel_rfl
theorem run20 : isSm (runM 20 (.fn me20.f me20.args) me20.start (toldK me20)) = true := by kernel_rfl
theorem run21 : isSm (runM 21 (.fn me21.f me21.args) me21.start (toldK me21)) = true := by kernel_rfl
theorem run22 : isSm (runM 22 (.fn me22.f me22.args) me22.start (toldK me22)) = true := by kernel_rfl
theorem run23 : isSm (runM 23 (.fn me23.f me23.args) me23.start (toldK me23)) = true := by kernel_rfl
theorem run24 : isSm (runM 24 (.fn me24.f me24.args) me24.start (toldK me24)) = true := by kernel_rfl
theorem run25 : isSm (runM 25 (.fn me25.f me25.args) me25.start (toldK me25)) = true := by kernel_rfl
theorem run26 : isSm (runM 26 (.fn me26.f me26.args) me26.start (toldK me26)) = true := by kernel_rfl
theorem run27 : isSm (runM 27 (.fn me27.f me27.args) me27.start (toldK me27)) = true := by kernel_rfl
theorem run28 : isSm (runM 28 (.fn me28.f me28.args) me28.start (toldK me28)) = true := by kernel_rfl
theorem run29 : isSm (runM 29 (.fn me29.f me29.args) me29.start (toldK me29)) = true := by kernel_rfl
theorem run30 : isSm (runM 30 (.fn me30.f me30.args) me30.start (toldK me30)) = true := by kernel_rfl
theorem run31 : isSm (runM 31 (.fn me31.f me31.args) me31.start (toldK me31)) = true := by kernel_rfl
end Go.Proofs.YtihcmbhankddkadGreat.Ev
