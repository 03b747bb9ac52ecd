/-
  Calls of the law's run, run by the kernel.
-/
import Derived.Test.YtjenkjblcpinnaaGreatMt
import Derived.KernelRfl
namespace Go.Proofs.YtjenkjblcpinnaaGreat.Ev
open Go
set_option maxRecDepth 1000000
set_option linter.all false
theorem run0 : isSm (runM 0 (.fn me0.f me0.args) me0.start (toldK me0)) = true := by kernel_rfl
end Go.Proofs.YtjenkjblcpinnaaGreat.Ev
