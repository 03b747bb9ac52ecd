/-
  Calls of the law's run, run by the kernel.
-/
import Derived.Test.YtopigipibioclaaGreatDoorMt
import Derived.KernelRfl
namespace Go.Proofs.YtopigipibioclaaGreatDoor.Ev
open Go
set_option maxHeartbeats 4000000
set_option maxRecDepth 1000000
set_option linter.all false
theorem Lp : bH (bG ZD Lz 79 (.fn me79.f me79.args) me79.start (aR me79)) = true := by kernel_rfl
theorem Lo : bH (bG ZC Lz 80 (.fn me80.f me80.args) me80.start (aR me80)) = true := by kernel_rfl
theorem Ln : bH (bG ZB Lz 81 (.fn me81.f me81.args) me81.start (aR me81)) = true := by kernel_rfl
theorem Ll : bH (bG ZA Lz 82 (.fn me82.f me82.args) me82.start (aR me82)) = true := by kernel_rfl
theorem Lk : bH (bG Zz Lz 83 (.fn me83.f me83.args) me83.start (aR me83)) = true := by kernel_rfl
theorem Lj : bH (bG Zy Lz 84 (.fn me84.f me84.args) me84.start (aR me84)) = true := by kernel_rfl
theorem Li : bH (bG Zx Lz 85 (.fn me85.f me85.args) me85.start (aR me85)) = true := by kernel_rfl
theorem Lh : bH (bG Zw Lz 86 (.fn me86.f me86.args) me86.start (aR me86)) = true := by kernel_rfl
theorem Lg : bH (bG Zv Lz 87 (.fn me87.f me87.args) me87.start (aR me87)) = true := by kernel_rfl
theorem Lf : bH (bG Zu Lz 88 (.fn me88.f me88.args) me88.start (aR me88)) = true := by kernel_rfl
theorem Ld : bH (bG Zt Lz 89 (.fn me89.f me89.args) me89.start (aR me89)) = true := by kernel_rfl
end Go.Proofs.YtopigipibioclaaGreatDoor.Ev
