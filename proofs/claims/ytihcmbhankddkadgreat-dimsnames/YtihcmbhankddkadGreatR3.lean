/-
  Calls of the law's run, run by the kernel.
-/
import Derived.Test.YtihcmbhankddkadGreatMt
import Derived.KernelRfl
namespace Go.Proofs.YtihcmbhankddkadGreat.Ev
open Go
set_option maxRecDepth 1000000
set_option linter.all false
theorem run48 : isSm (runM 48 (.fn me48.f me48.args) me48.start (toldK me48)) = true := by kernel_rfl
theorem run49 : isSm (runM 49 (.fn me49.f me49.args) me49.start (toldK me49)) = true := by kernel_rfl
theorem run50 : isSm (runM 50 (.fn me50.f me50.args) me50.start (toldK me50)) = true := by kernel_rfl
theorem run51 : isSm (runM 51 (.fn me51.f me51.args) me51.start (toldK me51)) = true := by kernel_rfl
theorem run52 : isSm (runM 52 (.fn me52.f me52.args) me52.start (toldK me52)) = true := by kernel_rfl
theorem run53 : isSm (runM 53 (.fn me53.f me53.args) me53.start (toldK me53)) = true := by kernel_rfl
theorem run54 : isSm (runM 54 (.fn me54.f me54.args) me54.start (toldK me54)) = true := by kernel_rfl
theorem run55 : isSm (runM 55 (.fn me55.f me55.args) me55.start (toldK me55)) = true := by kernel_rfl
theorem run56 : isSm (runM 56 (.fn me56.f me56.args) me56.start (toldK me56)) = true := by kernel_rfl
theorem run57 : isSm (runM 57 (.fn me57.f me57.args) me57.start (toldK me57)) = true := by kernel_rfl
theorem run58 : isSm (runM 58 (.fn me58.f me58.args) me58.start (toldK me58)) = true := by kernel_rfl
theorem run59 : isSm (runM 59 (.fn me59.f me59.args) me59.start (toldK me59)) = true := by kernel_rfl
theorem run60 : isSm (runM 60 (.fn me60.f me60.args) me60.start (toldK me60)) = true := by kernel_rfl
theorem run61 : isSm (runM 61 (.fn me61.f me61.args) me61.start (toldK me61)) = true := by kernel_rfl
theorem run62 : isSm (runM 62 (.fn me62.f me62.args) me62.start (toldK me62)) = true := by kernel_rfl
theorem run63 : isSm (runM 63 (.fn me63.f me63.args) me63.start (toldK me63)) = true := by kernel_rfl
end Go.Proofs.YtihcmbhankddkadGreat.Ev
