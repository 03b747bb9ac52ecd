/-
  Calls of the law's run, run by the kernel.
-/
import Derived.Test.YtmchbjommpmlkaaGreatMt
import Derived.KernelRfl
namespace Go.Proofs.YtmchbjommpmlkaaGreat.Ev
open Go
set_option maxRecDepth 1000000
set_option linter.all false
theorem run_4_45 : isSm (runM_4 45 (.fn me_4_45.f me_4_45.args) me_4_45.start (toldK me_4_45)) = true := by kernel_rfl
theorem run_4_46 : isSm (runM_4 46 (.fn me_4_46.f me_4_46.args) me_4_46.start (toldK me_4_46)) = true := by kernel_rfl
theorem run_4_47 : isSm (runM_4 47 (.fn me_4_47.f me_4_47.args) me_4_47.start (toldK me_4_47)) = true := by kernel_rfl
theorem run_4_48 : isSm (runM_4 48 (.fn me_4_48.f me_4_48.args) me_4_48.start (toldK me_4_48)) = true := by kernel_rfl
theorem run_4_49 : isSm (runM_4 49 (.fn me_4_49.f me_4_49.args) me_4_49.start (toldK me_4_49)) = true := by kernel_rfl
theorem run_4_50 : isSm (runM_4 50 (.fn me_4_50.f me_4_50.args) me_4_50.start (toldK me_4_50)) = true := by kernel_rfl
theorem run_4_51 : isSm (runM_4 51 (.fn me_4_51.f me_4_51.args) me_4_51.start (toldK me_4_51)) = true := by kernel_rfl
theorem run_4_52 : isSm (runM_4 52 (.fn me_4_52.f me_4_52.args) me_4_52.start (toldK me_4_52)) = true := by kernel_rfl
theorem run_4_53 : isSm (runM_4 53 (.fn me_4_53.f me_4_53.args) me_4_53.start (toldK me_4_53)) = true := by kernel_rfl
theorem run_4_54 : isSm (runM_4 54 (.fn me_4_54.f me_4_54.args) me_4_54.start (toldK me_4_54)) = true := by kernel_rfl
theorem run_4_55 : isSm (runM_4 55 (.fn me_4_55.f me_4_55.args) me_4_55.start (toldK me_4_55)) = true := by kernel_rfl
theorem run_4_56 : isSm (runM_4 56 (.fn me_4_56.f me_4_56.args) me_4_56.start (toldK me_4_56)) = true := by kernel_rfl
theorem run_4_57 : isSm (runM_4 57 (.fn me_4_57.f me_4_57.args) me_4_57.start (toldK me_4_57)) = true := by kernel_rfl
theorem run_4_58 : isSm (runM_4 58 (.fn me_4_58.f me_4_58.args) me_4_58.start (toldK me_4_58)) = true := by kernel_rfl
theorem run_4_59 : isSm (runM_4 59 (.fn me_4_59.f me_4_59.args) me_4_59.start (toldK me_4_59)) = true := by kernel_rfl
theorem run_4_60 : isSm (runM_4 60 (.fn me_4_60.f me_4_60.args) me_4_60.start (toldK me_4_60)) = true := by kernel_rfl
end Go.Proofs.YtmchbjommpmlkaaGreat.Ev
