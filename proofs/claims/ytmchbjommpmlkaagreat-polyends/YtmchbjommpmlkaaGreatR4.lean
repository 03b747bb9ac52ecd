/-
  Calls of the law's run, run by the kernel.
-/
import Derived.Test.YtmchbjommpmlkaaGreatMt
import Derived.KernelRfl
namespace Go.Proofs.YtmchbjommpmlkaaGreat.Ev
open Go
set_option maxRecDepth 1000000
set_option linter.all false
theorem run_4_29 : isSm (runM_4 29 (.fn me_4_29.f me_4_29.args) me_4_29.start (toldK me_4_29)) = true := by kernel_rfl
theorem run_4_30 : isSm (runM_4 30 (.fn me_4_30.f me_4_30.args) me_4_30.start (toldK me_4_30)) = true := by kernel_rfl
theorem run_4_31 : isSm (runM_4 31 (.fn me_4_31.f me_4_31.args) me_4_31.start (toldK me_4_31)) = true := by kernel_rfl
theorem run_4_32 : isSm (runM_4 32 (.fn me_4_32.f me_4_32.args) me_4_32.start (toldK me_4_32)) = true := by kernel_rfl
theorem run_4_33 : isSm (runM_4 33 (.fn me_4_33.f me_4_33.args) me_4_33.start (toldK me_4_33)) = true := by kernel_rfl
theorem run_4_34 : isSm (runM_4 34 (.fn me_4_34.f me_4_34.args) me_4_34.start (toldK me_4_34)) = true := by kernel_rfl
theorem run_4_35 : isSm (runM_4 35 (.fn me_4_35.f me_4_35.args) me_4_35.start (toldK me_4_35)) = true := by kernel_rfl
theorem run_4_36 : isSm (runM_4 36 (.fn me_4_36.f me_4_36.args) me_4_36.start (toldK me_4_36)) = true := by kernel_rfl
theorem run_4_37 : isSm (runM_4 37 (.fn me_4_37.f me_4_37.args) me_4_37.start (toldK me_4_37)) = true := by kernel_rfl
theorem run_4_38 : isSm (runM_4 38 (.fn me_4_38.f me_4_38.args) me_4_38.start (toldK me_4_38)) = true := by kernel_rfl
theorem run_4_39 : isSm (runM_4 39 (.fn me_4_39.f me_4_39.args) me_4_39.start (toldK me_4_39)) = true := by kernel_rfl
theorem run_4_40 : isSm (runM_4 40 (.fn me_4_40.f me_4_40.args) me_4_40.start (toldK me_4_40)) = true := by kernel_rfl
theorem run_4_41 : isSm (runM_4 41 (.fn me_4_41.f me_4_41.args) me_4_41.start (toldK me_4_41)) = true := by kernel_rfl
theorem run_4_42 : isSm (runM_4 42 (.fn me_4_42.f me_4_42.args) me_4_42.start (toldK me_4_42)) = true := by kernel_rfl
theorem run_4_43 : isSm (runM_4 43 (.fn me_4_43.f me_4_43.args) me_4_43.start (toldK me_4_43)) = true := by kernel_rfl
theorem run_4_44 : isSm (runM_4 44 (.fn me_4_44.f me_4_44.args) me_4_44.start (toldK me_4_44)) = true := by kernel_rfl
end Go.Proofs.YtmchbjommpmlkaaGreat.Ev
