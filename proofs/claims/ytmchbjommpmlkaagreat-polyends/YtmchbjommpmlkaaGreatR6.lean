/-
  Calls of the law's run, run by the kernel.
-/
import Derived.Test.YtmchbjommpmlkaaGreatMt
import Derived.KernelRfl
namespace Go.Proofs.YtmchbjommpmlkaaGreat.Ev
open Go
set_option maxRecDepth 1000000
set_option linter.all false
theorem run_4_61 : isSm (runM_4 61 (.fn me_4_61.f me_4_61.args) me_4_61.start (toldK me_4_61)) = true := by kernel_rfl
theorem run_4_62 : isSm (runM_4 62 (.fn me_4_62.f me_4_62.args) me_4_62.start (toldK me_4_62)) = true := by kernel_rfl
theorem run_4_63 : isSm (runM_4 63 (.fn me_4_63.f me_4_63.args) me_4_63.start (toldK me_4_63)) = true := by kernel_rfl
theorem run_4_64 : isSm (runM_4 64 (.fn me_4_64.f me_4_64.args) me_4_64.start (toldK me_4_64)) = true := by kernel_rfl
theorem run_4_65 : isSm (runM_4 65 (.fn me_4_65.f me_4_65.args) me_4_65.start (toldK me_4_65)) = true := by kernel_rfl
theorem run_4_66 : isSm (runM_4 66 (.fn me_4_66.f me_4_66.args) me_4_66.start (toldK me_4_66)) = true := by kernel_rfl
theorem run_4_67 : isSm (runM_4 67 (.fn me_4_67.f me_4_67.args) me_4_67.start (toldK me_4_67)) = true := by kernel_rfl
theorem run_4_68 : isSm (runM_4 68 (.fn me_4_68.f me_4_68.args) me_4_68.start (toldK me_4_68)) = true := by kernel_rfl
theorem run_4_69 : isSm (runM_4 69 (.fn me_4_69.f me_4_69.args) me_4_69.start (toldK me_4_69)) = true := by kernel_rfl
theorem run_4_70 : isSm (runM_4 70 (.fn me_4_70.f me_4_70.args) me_4_70.start (toldK me_4_70)) = true := by kernel_rfl
theorem run_4_71 : isSm (runM_4 71 (.fn me_4_71.f me_4_71.args) me_4_71.start (toldK me_4_71)) = true := by kernel_rfl
theorem run_4_72 : isSm (runM_4 72 (.fn me_4_72.f me_4_72.args) me_4_72.start (toldK me_4_72)) = true := by kernel_rfl
theorem run_4_73 : isSm (runM_4 73 (.fn me_4_73.f me_4_73.args) me_4_73.start (toldK me_4_73)) = true := by kernel_rfl
theorem run_4_74 : isSm (runM_4 74 (.fn me_4_74.f me_4_74.args) me_4_74.start (toldK me_4_74)) = true := by kernel_rfl
theorem run_4_75 : isSm (runM_4 75 (.fn me_4_75.f me_4_75.args) me_4_75.start (toldK me_4_75)) = true := by kernel_rfl
theorem run_4_76 : isSm (runM_4 76 (.fn me_4_76.f me_4_76.args) me_4_76.start (toldK me_4_76)) = true := by kernel_rfl
end Go.Proofs.YtmchbjommpmlkaaGreat.Ev
