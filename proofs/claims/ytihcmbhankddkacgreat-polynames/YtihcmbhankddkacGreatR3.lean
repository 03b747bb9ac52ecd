/-
  Calls of the law's run, run by the kernel.
-/
import Derived.Test.YtihcmbhankddkacGreatMt
import Derived.KernelRfl
namespace Go.Proofs.YtihcmbhankddkacGreat.Ev
open Go
set_option maxRecDepth 1000000
set_option linter.all false
theorem run24 : isSm (runM 24 (.fn me24.f me24.args) me24.start (toldK me24)) = true := by kernel_rfl
end Go.Proofs.YtihcmbhankddkacGreat.Ev
