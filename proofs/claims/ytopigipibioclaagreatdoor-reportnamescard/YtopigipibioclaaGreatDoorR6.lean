/-
  Calls of the law's run, run by the kernel.
-/
import Derived.Test.YtopigipibioclaaGreatDoorMt
import Derived.KernelRfl
namespace Go.Proofs.YtopigipibioclaaGreatDoor.Ev
open Go
set_option maxHeartbeats 4000000
set_option maxRecDepth 1000000
set_option linter.all false
theorem y1 : bH (bG KG Lz 114 (.fn me114.f me114.args) me114.start (aR me114)) = true := by kernel_rfl
theorem y0 : bH (bG KF Lz 115 (.fn me115.f me115.args) me115.start (aR me115)) = true := by kernel_rfl
theorem yZ : bH (bG KE Lz 116 (.fn me116.f me116.args) me116.start (aR me116)) = true := by kernel_rfl
theorem yY : bH (bG KC Lz 117 (.fn me117.f me117.args) me117.start (aR me117)) = true := by kernel_rfl
theorem yX : bH (bG KB Lz 118 (.fn me118.f me118.args) me118.start (aR me118)) = true := by kernel_rfl
end Go.Proofs.YtopigipibioclaaGreatDoor.Ev
