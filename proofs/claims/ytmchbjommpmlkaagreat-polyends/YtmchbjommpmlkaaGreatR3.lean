/-
  Calls of the law's run, run by the kernel.
-/
import Derived.Test.YtmchbjommpmlkaaGreatMt
import Derived.KernelRfl
namespace Go.Proofs.YtmchbjommpmlkaaGreat.Ev
open Go
set_option maxRecDepth 1000000
set_option linter.all false
theorem run_4_13 : isSm (runM_4 13 (.fn me_4_13.f me_4_13.args) me_4_13.start (toldK me_4_13)) = true := by kernel_rfl
theorem run_4_14 : isSm (runM_4 14 (.fn me_4_14.f me_4_14.args) me_4_14.start (toldK me_4_14)) = true := by kernel_rfl
theorem run_4_15 : isSm (runM_4 15 (.fn me_4_15.f me_4_15.args) me_4_15.start (toldK me_4_15)) = true := by kernel_rfl
theorem run_4_16 : isSm (runM_4 16 (.fn me_4_16.f me_4_16.args) me_4_16.start (toldK me_4_16)) = true := by kernel_rfl
theorem run_4_17 : isSm (runM_4 17 (.fn me_4_17.f me_4_17.args) me_4_17.start (toldK me_4_17)) = true := by kernel_rfl
theorem run_4_18 : isSm (runM_4 18 (.fn me_4_18.f me_4_18.args) me_4_18.start (toldK me_4_18)) = true := by kernel_rfl
theorem run_4_19 : isSm (runM_4 19 (.fn me_4_19.f me_4_19.args) me_4_19.start (toldK me_4_19)) = true := by kernel_rfl
theorem run_4_20 : isSm (runM_4 20 (.fn me_4_20.f me_4_20.args) me_4_20.start (toldK me_4_20)) = true := by kernel_rfl
theorem run_4_21 : isSm (runM_4 21 (.fn me_4_21.f me_4_21.args) me_4_21.start (toldK me_4_21)) = true := by kernel_rfl
theorem run_4_22 : isSm (runM_4 22 (.fn me_4_22.f me_4_22.args) me_4_22.start (toldK me_4_22)) = true := by kernel_rfl
theorem run_4_23 : isSm (runM_4 23 (.fn me_4_23.f me_4_23.args) me_4_23.start (toldK me_4_23)) = true := by kernel_rfl
theorem run_4_24 : isSm (runM_4 24 (.fn me_4_24.f me_4_24.args) me_4_24.start (toldK me_4_24)) = true := by kernel_rfl
theorem run_4_25 : isSm (runM_4 25 (.fn me_4_25.f me_4_25.args) me_4_25.start (toldK me_4_25)) = true := by kernel_rfl
theorem run_4_26 : isSm (runM_4 26 (.fn me_4_26.f me_4_26.args) me_4_26.start (toldK me_4_26)) = true := by kernel_rfl
theorem run_4_27 : isSm (runM_4 27 (.fn me_4_27.f me_4_27.args) me_4_27.start (toldK me_4_27)) = true := by kernel_rfl
theorem run_4_28 : isSm (runM_4 28 (.fn me_4_28.f me_4_28.args) me_4_28.start (toldK me_4_28)) = true := by kernel_rfl
end Go.Proofs.YtmchbjommpmlkaaGreat.Ev
