/-
  Calls of the law's run, run by the kernel.
-/
import Derived.Test.YtmchbjommpmlkaaGreatMt
import Derived.KernelRfl
namespace Go.Proofs.YtmchbjommpmlkaaGreat.Ev
open Go
set_option maxRecDepth 1000000
set_option linter.all false
theorem run_1_0 : isSm (runM_1 0 (.fn me_1_0.f me_1_0.args) me_1_0.start (toldK me_1_0)) = true := by kernel_rfl
theorem run_1_1 : isSm (runM_1 1 (.fn me_1_1.f me_1_1.args) me_1_1.start (toldK me_1_1)) = true := by kernel_rfl
theorem run_2_0 : isSm (runM_2 0 (.fn me_2_0.f me_2_0.args) me_2_0.start (toldK me_2_0)) = true := by kernel_rfl
theorem run_2_1 : isSm (runM_2 1 (.fn me_2_1.f me_2_1.args) me_2_1.start (toldK me_2_1)) = true := by kernel_rfl
theorem run_2_2 : isSm (runM_2 2 (.fn me_2_2.f me_2_2.args) me_2_2.start (toldK me_2_2)) = true := by kernel_rfl
theorem run_2_3 : isSm (runM_2 3 (.fn me_2_3.f me_2_3.args) me_2_3.start (toldK me_2_3)) = true := by kernel_rfl
theorem run_2_4 : isSm (runM_2 4 (.fn me_2_4.f me_2_4.args) me_2_4.start (toldK me_2_4)) = true := by kernel_rfl
theorem run_2_5 : isSm (runM_2 5 (.fn me_2_5.f me_2_5.args) me_2_5.start (toldK me_2_5)) = true := by kernel_rfl
theorem run_2_6 : isSm (runM_2 6 (.fn me_2_6.f me_2_6.args) me_2_6.start (toldK me_2_6)) = true := by kernel_rfl
theorem run_3_0 : isSm (runM_3 0 (.fn me_3_0.f me_3_0.args) me_3_0.start (toldK me_3_0)) = true := by kernel_rfl
theorem run_3_1 : isSm (runM_3 1 (.fn me_3_1.f me_3_1.args) me_3_1.start (toldK me_3_1)) = true := by kernel_rfl
theorem run_3_2 : isSm (runM_3 2 (.fn me_3_2.f me_3_2.args) me_3_2.start (toldK me_3_2)) = true := by kernel_rfl
theorem run_3_3 : isSm (runM_3 3 (.fn me_3_3.f me_3_3.args) me_3_3.start (toldK me_3_3)) = true := by kernel_rfl
theorem run_3_4 : isSm (runM_3 4 (.fn me_3_4.f me_3_4.args) me_3_4.start (toldK me_3_4)) = true := by kernel_rfl
theorem run_3_5 : isSm (runM_3 5 (.fn me_3_5.f me_3_5.args) me_3_5.start (toldK me_3_5)) = true := by kernel_rfl
theorem run_3_6 : isSm (runM_3 6 (.fn me_3_6.f me_3_6.args) me_3_6.start (toldK me_3_6)) = true := by kernel_rfl
end Go.Proofs.YtmchbjommpmlkaaGreat.Ev
