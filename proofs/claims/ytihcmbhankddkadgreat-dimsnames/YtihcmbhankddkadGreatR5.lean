/-
  Calls of the law's run, run by the kernel.
-/
import Derived.Test.YtihcmbhankddkadGreatMt
import Derived.KernelRfl
namespace Go.Proofs.YtihcmbhankddkadGreat.Ev
open Go
set_option maxRecDepth 1000000
set_option linter.all false
theorem run80 : isSm (runM 80 (.fn me80.f me80.args) me80.start (toldK me80)) = true := by kernel_rfl
theorem run81 : isSm (runM 81 (.fn me81.f me81.args) me81.start (toldK me81)) = true := by kernel_rfl
theorem run82 : isSm (runM 82 (.fn me82.f me82.args) me82.start (toldK me82)) = true := by kernel_rfl
theorem run83 : isSm (runM 83 (.fn me83.f me83.args) me83.start (toldK me83)) = true := by kernel_rfl
theorem run84 : isSm (runM 84 (.fn me84.f me84.args) me84.start (toldK me84)) = true := by kernel_rfl
theorem run85 : isSm (runM 85 (.fn me85.f me85.args) me85.start (toldK me85)) = true := by kernel_rfl
theorem run86 : isSm (runM 86 (.fn me86.f me86.args) me86.start (toldK me86)) = true := by kernel_rfl
theorem run87 : isSm (runM 87 (.fn me87.f me87.args) me87.start (toldK me87)) = true := by kernel_rfl
theorem run88 : isSm (runM 88 (.fn me88.f me88.args) me88.start (toldK me88)) = true := by kernel_rfl
theorem run89 : isSm (runM 89 (.fn me89.f me89.args) me89.start (toldK me89)) = true := by kernel_rfl
theorem run90 : isSm (runM 90 (.fn me90.f me90.args) me90.start (toldK me90)) = true := by kernel_rfl
theorem run91 : isSm (runM 91 (.fn me91.f me91.args) me91.start (toldK me91)) = true := by kernel_rfl
theorem run92 : isSm (runM 92 (.fn me92.f me92.args) me92.start (toldK me92)) = true := by kernel_rfl
theorem run93 : isSm (runM 93 (.fn me93.f me93.args) me93.start (toldK me93)) = true := by kernel_rfl
theorem run94 : isSm (runM 94 (.fn me94.f me94.args) me94.start (toldK me94)) = true := by kernel_rfl
theorem run95 : isSm (runM 95 (.fn me95.f me95.args) me95.start (toldK me95)) = true := by kernel_rfl
end Go.Proofs.YtihcmbhankddkadGreat.Ev
