/-
  Calls of the law's run, run by the kernel.
-/
import Derived.Test.YtmchbjommpmlkaaGreatMt
import Derived.KernelRfl
namespace Go.Proofs.YtmchbjommpmlkaaGreat.Ev
open Go
set_option maxRecDepth 1000000
set_option linter.all false
theorem run_4_93 : isSm (runM_4 93 (.fn me_4_93.f me_4_93.args) me_4_93.start (toldK me_4_93)) = true := by kernel_rfl
theorem run_4_94 : isSm (runM_4 94 (.fn me_4_94.f me_4_94.args) me_4_94.start (toldK me_4_94)) = true := by kernel_rfl
theorem run_4_95 : isSm (runM_4 95 (.fn me_4_95.f me_4_95.args) me_4_95.start (toldK me_4_95)) = true := by kernel_rfl
theorem run_4_96 : isSm (runM_4 96 (.fn me_4_96.f me_4_96.args) me_4_96.start (toldK me_4_96)) = true := by kernel_rfl
theorem run_4_97 : isSm (runM_4 97 (.fn me_4_97.f me_4_97.args) me_4_97.start (toldK me_4_97)) = true := by kernel_rfl
theorem run_4_98 : isSm (runM_4 98 (.fn me_4_98.f me_4_98.args) me_4_98.start (toldK me_4_98)) = true := by kernel_rfl
theorem run_4_99 : isSm (runM_4 99 (.fn me_4_99.f me_4_99.args) me_4_99.start (toldK me_4_99)) = true := by kernel_rfl
theorem run_4_100 : isSm (runM_4 100 (.fn me_4_100.f me_4_100.args) me_4_100.start (toldK me_4_100)) = true := by kernel_rfl
theorem run_4_101 : isSm (runM_4 101 (.fn me_4_101.f me_4_101.args) me_4_101.start (toldK me_4_101)) = true := by kernel_rfl
theorem run_4_102 : isSm (runM_4 102 (.fn me_4_102.f me_4_102.args) me_4_102.start (toldK me_4_102)) = true := by kernel_rfl
end Go.Proofs.YtmchbjommpmlkaaGreat.Ev
