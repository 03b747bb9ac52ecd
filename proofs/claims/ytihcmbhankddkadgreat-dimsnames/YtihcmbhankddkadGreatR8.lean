/-
  Calls of the law's run, run by the kernel.
-/
import Derived.Test.YtihcmbhankddkadGreatMt
import Derived.KernelRfl
namespace Go.Proofs.YtihcmbhankddkadGreat.Ev
open Go
set_option maxRecDepth 1000000
set_option linter.all false
theorem run128 : isSm (runM 128 (.fn me128.f me128.args) me128.start (toldK me128)) = true := by kernel_rfl
theorem run129 : isSm (runM 129 (.fn me129.f me129.args) me129.start (toldK me129)) = true := by kernel_rfl
end Go.Proofs.YtihcmbhankddkadGreat.Ev
