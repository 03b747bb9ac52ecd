/-
  Calls of the law's run, run by the kernel.
-/
import Derived.Test.YtihcmbhankddkadGreatMt
import Derived.KernelRfl
namespace Go.Proofs.YtihcmbhankddkadGreat.Ev
open Go
set_option maxRecDepth 1000000
set_option linter.all false
theorem run0 : isSm (runM 0 (.fn me0.f me0.args) me0.start (toldK me0)) = true := by kernel_rfl
theorem run1 : isSm (runM 1 (.fn me1.f me1.args) me1.start (toldK me1)) = true := by kernel_rfl
theorem run2 : isSm (runM 2 (.fn me2.f me2.args) me2.start (toldK me2)) = true := by kernel_rfl
theorem run3 : isSm (runM 3 (.fn me3.f me3.args) me3.start (toldK me3)) = true := by kernel_rfl
theorem run4 : isSm (runM 4 (.fn me4.f me4.args) me4.start (toldK me4)) = true := by kernel_rfl
theorem run5 : isSm (runM 5 (.fn me5.f me5.args) me5.start (toldK me5)) = true := by kernel_rfl
theorem run6 : isSm (runM 6 (.fn me6.f me6.args) me6.start (toldK me6)) = true := by kernel_rfl
theorem run7 : isSm (runM 7 (.fn me7.f me7.args) me7.start (toldK me7)) = true := by kernel_rfl
theorem run8 : isSm (runM 8 (.fn me8.f me8.args) me8.start (toldK me8)) = true := by kernel_rfl
theorem run9 : isSm (runM 9 (.fn me9.f me9.args) me9.start (toldK me9)) = true := by kernel_rfl
theorem run10 : isSm (runM 10 (.fn me10.f me10.args) me10.start (toldK me10)) = true := by kernel_rfl
theorem run11 : isSm (runM 11 (.fn me11.f me11.args) me11.start (toldK me11)) = true := by kernel_rfl
theorem run12 : isSm (runM 12 (.fn me12.f me12.args) me12.start (toldK me12)) = true := by kernel_rfl
theorem run13 : isSm (runM 13 (.fn me13.f me13.args) me13.start (toldK me13)) = true := by kernel_rfl
theorem run14 : isSm (runM 14 (.fn me14.f me14.args) me14.start (toldK me14)) = true := by kernel_rfl
theorem run15 : isSm (runM 15 (.fn me15.f me15.args) me15.start (toldK me15)) = true := by kernel_rfl
end Go.Proofs.YtihcmbhankddkadGreat.Ev
