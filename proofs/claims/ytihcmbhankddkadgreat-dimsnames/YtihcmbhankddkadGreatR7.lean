/-
  Calls of the law's run, run by the kernel.
-/
import Derived.Test.YtihcmbhankddkadGreatMt
import Derived.KernelRfl
namespace Go.Proofs.YtihcmbhankddkadGreat.Ev
open Go
set_option maxRecDepth 1000000
set_option linter.all false
theorem run112 : isSm (runM 112 (.fn me112.f me112.args) me112.start (toldK me112)) = true := by kernel_rfl
theorem run113 : isSm (runM 113 (.fn me113.f me113.args) me113.start (toldK me113)) = true := by kernel_rfl
theorem run114 : isSm (runM 114 (.fn me114.f me114.args) me114.start (toldK me114)) = true := by kernel_rfl
theorem run115 : isSm (runM 115 (.fn me115.f me115.args) me115.start (toldK me115)) = true := by kernel_rfl
theorem run116 : isSm (runM 116 (.fn me116.f me116.args) me116.start (toldK me116)) = true := by kernel_rfl
theorem run117 : isSm (runM 117 (.fn me117.f me117.args) me117.start (toldK me117)) = true := by kernel_rfl
theorem run118 : isSm (runM 118 (.fn me118.f me118.args) me118.start (toldK me118)) = true := by kernel_rfl
theorem run119 : isSm (runM 119 (.fn me119.f me119.args) me119.start (toldK me119)) = true := by kernel_rfl
theorem run120 : isSm (runM 120 (.fn me120.f me120.args) me120.start (toldK me120)) = true := by kernel_rfl
theorem run121 : isSm (runM 121 (.fn me121.f me121.args) me121.start (toldK me121)) = true := by kernel_rfl
theorem run122 : isSm (runM 122 (.fn me122.f me122.args) me122.start (toldK me122)) = true := by kernel_rfl
theorem run123 : isSm (runM 123 (.fn me123.f me123.args) me123.start (toldK me123)) = true := by kernel_rfl
theorem run124 : isSm (runM 124 (.fn me124.f me124.args) me124.start (toldK me124)) = true := by kernel_rfl
theorem run125 : isSm (runM 125 (.fn me125.f me125.args) me125.start (toldK me125)) = true := by kernel_rfl
theorem run126 : isSm (runM 126 (.fn me126.f me126.args) me126.start (toldK me126)) = true := by kernel_rfl
theorem run127 : isSm (runM 127 (.fn me127.f me127.args) me127.start (toldK me127)) = true := by kernel_rfl
end Go.Proofs.YtihcmbhankddkadGreat.Ev
