/-
  Calls of the law's run, run by the kernel.
-/
import Derived.Test.YtihcmbhankddkadGreatMt
import Derived.KernelRfl
namespace Go.Proofs.YtihcmbhankddkadGreat.Ev
open Go
set_option maxRecDepth 1000000
set_option linter.all false
theorem run96 : isSm (runM 96 (.fn me96.f me96.args) me96.start (toldK me96)) = true := by kernel_rfl
theorem run97 : isSm (runM 97 (.fn me97.f me97.args) me97.start (toldK me97)) = true := by kernel_rfl
theorem run98 : isSm (runM 98 (.fn me98.f me98.args) me98.start (toldK me98)) = true := by kernel_rfl
theorem run99 : isSm (runM 99 (.fn me99.f me99.args) me99.start (toldK me99)) = true := by kernel_rfl
theorem run100 : isSm (runM 100 (.fn me100.f me100.args) me100.start (toldK me100)) = true := by kernel_rfl
theorem run101 : isSm (runM 101 (.fn me101.f me101.args) me101.start (toldK me101)) = true := by kernel_rfl
theorem run102 : isSm (runM 102 (.fn me102.f me102.args) me102.start (toldK me102)) = true := by kernel_rfl
theorem run103 : isSm (runM 103 (.fn me103.f me103.args) me103.start (toldK me103)) = true := by kernel_rfl
theorem run104 : isSm (runM 104 (.fn me104.f me104.args) me104.start (toldK me104)) = true := by kernel_rfl
theorem run105 : isSm (runM 105 (.fn me105.f me105.args) me105.start (toldK me105)) = true := by kernel_rfl
theorem run106 : isSm (runM 106 (.fn me106.f me106.args) me106.start (toldK me106)) = true := by kernel_rfl
theorem run107 : isSm (runM 107 (.fn me107.f me107.args) me107.start (toldK me107)) = true := by kernel_rfl
theorem run108 : isSm (runM 108 (.fn me108.f me108.args) me108.start (toldK me108)) = true := by kernel_rfl
theorem run109 : isSm (runM 109 (.fn me109.f me109.args) me109.start (toldK me109)) = true := by kernel_rfl
theorem run110 : isSm (runM 110 (.fn me110.f me110.args) me110.start (toldK me110)) = true := by kernel_rfl
theorem run111 : isSm (runM 111 (.fn me111.f me111.args) me111.start (toldK me111)) = true := by kernel_rfl
end Go.Proofs.YtihcmbhankddkadGreat.Ev
