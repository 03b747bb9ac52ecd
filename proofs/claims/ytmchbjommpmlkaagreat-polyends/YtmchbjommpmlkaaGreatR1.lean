/-
  Calls of the law's run, run by the kernel.
-/
import Derived.Test.YtmchbjommpmlkaaGreatMt
import Derived.KernelRfl
namespace Go.Proofs.YtmchbjommpmlkaaGreat.Ev
open Go
set_option maxRecDepth 1000000
set_option linter.all false
theorem run_3_7 : isSm (runM_3 7 (.fn me_3_7.f me_3_7.args) me_3_7.start (toldK me_3_7)) = true := by kernel_rfl
theorem run_3_8 : isSm (runM_3 8 (.fn me_3_8.f me_3_8.args) me_3_8.start (toldK me_3_8)) = true := by kernel_rfl
theorem run_3_9 : isSm (runM_3 9 (.fn me_3_9.f me_3_9.args) me_3_9.start (toldK me_3_9)) = true := by kernel_rfl
theorem run_3_10 : isSm (runM_3 10 (.fn me_3_10.f me_3_10.args) me_3_10.start (toldK me_3_10)) = true := by kernel_rfl
theorem run_3_11 : isSm (runM_3 11 (.fn me_3_11.f me_3_11.args) me_3_11.start (toldK me_3_11)) = true := by kernel_rfl
theorem run_3_12 : isSm (runM_3 12 (.fn me_3_12.f me_3_12.args) me_3_12.start (toldK me_3_12)) = true := by kernel_rfl
theorem run_3_13 : isSm (runM_3 13 (.fn me_3_13.f me_3_13.args) me_3_13.start (toldK me_3_13)) = true := by kernel_rfl
theorem run_3_14 : isSm (runM_3 14 (.fn me_3_14.f me_3_14.args) me_3_14.start (toldK me_3_14)) = true := by kernel_rfl
theorem run_3_15 : isSm (runM_3 15 (.fn me_3_15.f me_3_15.args) me_3_15.start (toldK me_3_15)) = true := by kernel_rfl
theorem run_3_16 : isSm (runM_3 16 (.fn me_3_16.f me_3_16.args) me_3_16.start (toldK me_3_16)) = true := by kernel_rfl
theorem run_3_17 : isSm (runM_3 17 (.fn me_3_17.f me_3_17.args) me_3_17.start (toldK me_3_17)) = true := by kernel_rfl
theorem run_3_18 : isSm (runM_3 18 (.fn me_3_18.f me_3_18.args) me_3_18.start (toldK me_3_18)) = true := by kernel_rfl
theorem run_3_19 : isSm (runM_3 19 (.fn me_3_19.f me_3_19.args) me_3_19.start (toldK me_3_19)) = true := by kernel_rfl
theorem run_3_20 : isSm (runM_3 20 (.fn me_3_20.f me_3_20.args) me_3_20.start (toldK me_3_20)) = true := by kernel_rfl
theorem run_3_21 : isSm (runM_3 21 (.fn me_3_21.f me_3_21.args) me_3_21.start (toldK me_3_21)) = true := by kernel_rfl
theorem run_3_22 : isSm (runM_3 22 (.fn me_3_22.f me_3_22.args) me_3_22.start (toldK me_3_22)) = true := by kernel_rfl
end Go.Proofs.YtmchbjommpmlkaaGreat.Ev
