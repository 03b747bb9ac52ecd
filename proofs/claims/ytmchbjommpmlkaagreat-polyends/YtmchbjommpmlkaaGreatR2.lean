/-
  Calls of the law's run, run by the kernel.
-/
import Derived.Test.YtmchbjommpmlkaaGreatMt
import Derived.KernelRfl
namespace Go.Proofs.YtmchbjommpmlkaaGreat.Ev
open Go
set_option maxRecDepth 1000000
set_option linter.all false
theorem run_3_23 : isSm (runM_3 23 (.fn me_3_23.f me_3_23.args) me_3_23.start (toldK me_3_23)) = true := by kernel_rfl
theorem run_3_24 : isSm (runM_3 24 (.fn me_3_24.f me_3_24.args) me_3_24.start (toldK me_3_24)) = true := by kernel_rfl
theorem run_3_25 : isSm (runM_3 25 (.fn me_3_25.f me_3_25.args) me_3_25.start (toldK me_3_25)) = true := by kernel_rfl
theorem run_4_0 : isSm (runM_4 0 (.fn me_4_0.f me_4_0.args) me_4_0.start (toldK me_4_0)) = true := by kernel_rfl
theorem run_4_1 : isSm (runM_4 1 (.fn me_4_1.f me_4_1.args) me_4_1.start (toldK me_4_1)) = true := by kernel_rfl
theorem run_4_2 : isSm (runM_4 2 (.fn me_4_2.f me_4_2.args) me_4_2.start (toldK me_4_2)) = true := by kernel_rfl
theorem run_4_3 : isSm (runM_4 3 (.fn me_4_3.f me_4_3.args) me_4_3.start (toldK me_4_3)) = true := by kernel_rfl
theorem run_4_4 : isSm (runM_4 4 (.fn me_4_4.f me_4_4.args) me_4_4.start (toldK me_4_4)) = true := by kernel_rfl
theorem run_4_5 : isSm (runM_4 5 (.fn me_4_5.f me_4_5.args) me_4_5.start (toldK me_4_5)) = true := by kernel_rfl
theorem run_4_6 : isSm (runM_4 6 (.fn me_4_6.f me_4_6.args) me_4_6.start (toldK me_4_6)) = true := by kernel_rfl
theorem run_4_7 : isSm (runM_4 7 (.fn me_4_7.f me_4_7.args) me_4_7.start (toldK me_4_7)) = true := by kernel_rfl
theorem run_4_8 : isSm (runM_4 8 (.fn me_4_8.f me_4_8.args) me_4_8.start (toldK me_4_8)) = true := by kernel_rfl
theorem run_4_9 : isSm (runM_4 9 (.fn me_4_9.f me_4_9.args) me_4_9.start (toldK me_4_9)) = true := by kernel_rfl
theorem run_4_10 : isSm (runM_4 10 (.fn me_4_10.f me_4_10.args) me_4_10.start (toldK me_4_10)) = true := by kernel_rfl
theorem run_4_11 : isSm (runM_4 11 (.fn me_4_11.f me_4_11.args) me_4_11.start (toldK me_4_11)) = true := by kernel_rfl
theorem run_4_12 : isSm (runM_4 12 (.fn me_4_12.f me_4_12.args) me_4_12.start (toldK me_4_12)) = true := by kernel_rfl
end Go.Proofs.YtmchbjommpmlkaaGreat.Ev
