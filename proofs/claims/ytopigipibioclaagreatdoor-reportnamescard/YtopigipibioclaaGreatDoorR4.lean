/-
  Calls of the law's run, run by the kernel.
-/
import Derived.Test.YtopigipibioclaaGreatDoorMt
import Derived.KernelRfl
namespace Go.Proofs.YtopigipibioclaaGreatDoor.Ev
open Go
set_option maxHeartbeats 4000000
set_option maxRecDepth 1000000
set_option linter.all false
theorem Lc : bH (bG Zs Lz 90 (.fn me90.f me90.args) me90.start (aR me90)) = true := by kernel_rfl
theorem Lb : bH (bG Zr Lz 91 (.fn me91.f me91.args) me91.start (aR me91)) = true := by kernel_rfl
theorem La : bH (bG Zq Lz 92 (.fn me92.f me92.args) me92.start (aR me92)) = true := by kernel_rfl
theorem K9 : bH (bG Zp Lz 93 (.fn me93.f me93.args) me93.start (aR me93)) = true := by kernel_rfl
theorem K8 : bH (bG Zo Lz 94 (.fn me94.f me94.args) me94.start (aR me94)) = true := by kernel_rfl
theorem K7 : bH (bG Zn Lz 95 (.fn me95.f me95.args) me95.start (aR me95)) = true := by kernel_rfl
theorem K6 : bH (bG Zm Lz 96 (.fn me96.f me96.args) me96.start (aR me96)) = true := by kernel_rfl
theorem K5 : bH (bG Zl Lz 97 (.fn me97.f me97.args) me97.start (aR me97)) = true := by kernel_rfl
theorem K4 : bH (bG Zk Lz 98 (.fn me98.f me98.args) me98.start (aR me98)) = true := by kernel_rfl
theorem K3 : bH (bG Zj Lz 99 (.fn me99.f me99.args) me99.start (aR me99)) = true := by kernel_rfl
theorem zn : bH (bG KT Lz 100 (.fn me100.f me100.args) me100.start (aR me100)) = true := by kernel_rfl
theorem zm : bH (bG KS Lz 101 (.fn me101.f me101.args) me101.start (aR me101)) = true := by kernel_rfl
end Go.Proofs.YtopigipibioclaaGreatDoor.Ev
