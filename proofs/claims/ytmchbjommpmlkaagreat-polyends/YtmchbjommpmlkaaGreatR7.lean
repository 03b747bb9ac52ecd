/-
  Calls of the law's run, run by the kernel.
-/
import Derived.Test.YtmchbjommpmlkaaGreatMt
import Derived.KernelRfl
namespace Go.Proofs.YtmchbjommpmlkaaGreat.Ev
open Go
set_option maxRecDepth 1000000
set_option linter.all false
theorem run_4_77 : isSm (runM_4 77 (.fn me_4_77.f me_4_77.args) me_4_77.start (toldK me_4_77)) = true := by kernel_rfl
theorem run_4_78 : isSm (runM_4 78 (.fn me_4_78.f me_4_78.args) me_4_78.start (toldK me_4_78)) = true := by kernel_rfl
theorem run_4_79 : isSm (runM_4 79 (.fn me_4_79.f me_4_79.args) me_4_79.start (toldK me_4_79)) = true := by kernel_rfl
theorem run_4_80 : isSm (runM_4 80 (.fn me_4_80.f me_4_80.args) me_4_80.start (toldK me_4_80)) = true := by kernel_rfl
theorem run_4_81 : isSm (runM_4 81 (.fn me_4_81.f me_4_81.args) me_4_81.start (toldK me_4_81)) = true := by kernel_rfl
theorem run_4_82 : isSm (runM_4 82 (.fn me_4_82.f me_4_82.args) me_4_82.start (toldK me_4_82)) = true := by kernel_rfl
theorem run_4_83 : isSm (runM_4 83 (.fn me_4_83.f me_4_83.args) me_4_83.start (toldK me_4_83)) = true := by kernel_rfl
theorem run_4_84 : isSm (runM_4 84 (.fn me_4_84.f me_4_84.args) me_4_84.start (toldK me_4_84)) = true := by kernel_rfl
theorem run_4_85 : isSm (runM_4 85 (.fn me_4_85.f me_4_85.args) me_4_85.start (toldK me_4_85)) = true := by kernel_rfl
theorem run_4_86 : isSm (runM_4 86 (.fn me_4_86.f me_4_86.args) me_4_86.start (toldK me_4_86)) = true := by kernel_rfl
theorem run_4_87 : isSm (runM_4 87 (.fn me_4_87.f me_4_87.args) me_4_87.start (toldK me_4_87)) = true := by kernel_rfl
theorem run_4_88 : isSm (runM_4 88 (.fn me_4_88.f me_4_88.args) me_4_88.start (toldK me_4_88)) = true := by kernel_rfl
theorem run_4_89 : isSm (runM_4 89 (.fn me_4_89.f me_4_89.args) me_4_89.start (toldK me_4_89)) = true := by kernel_rfl
theorem run_4_90 : isSm (runM_4 90 (.fn me_4_90.f me_4_90.args) me_4_90.start (toldK me_4_90)) = true := by kernel_rfl
theorem run_4_91 : isSm (runM_4 91 (.fn me_4_91.f me_4_91.args) me_4_91.start (toldK me_4_91)) = true := by kernel_rfl
theorem run_4_92 : isSm (runM_4 92 (.fn me_4_92.f me_4_92.args) me_4_92.start (toldK me_4_92)) = true := by kernel_rfl
end Go.Proofs.YtmchbjommpmlkaaGreat.Ev
