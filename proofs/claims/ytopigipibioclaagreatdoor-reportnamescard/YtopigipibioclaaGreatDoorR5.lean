/-
  Calls of the law's run, run by the kernel.
-/
import Derived.Test.YtopigipibioclaaGreatDoorMt
import Derived.KernelRfl
namespace Go.Proofs.YtopigipibioclaaGreatDoor.Ev
open Go
set_option maxHeartbeats 4000000
set_option maxRecDepth 1000000
set_option linter.all false
theorem zl : bH (bG KR Lz 102 (.fn me102.f me102.args) me102.start (aR me102)) = true := by kernel_rfl
theorem zk : bH (bG KQ Lz 103 (.fn me103.f me103.args) me103.start (aR me103)) = true := by kernel_rfl
theorem zj : bH (bG Lz Lz 104 (.fn me104.f me104.args) me104.start (aR me104)) = true := by kernel_rfl
theorem zi : bH (bG KP Lz 105 (.fn me105.f me105.args) me105.start (aR me105)) = true := by kernel_rfl
theorem zh : bH (bG KO Lz 106 (.fn me106.f me106.args) me106.start (aR me106)) = true := by kernel_rfl
theorem zg : bH (bG KN Lz 107 (.fn me107.f me107.args) me107.start (aR me107)) = true := by kernel_rfl
theorem zf : bH (bG KM Lz 108 (.fn me108.f me108.args) me108.start (aR me108)) = true := by kernel_rfl
theorem ze : bH (bG KL Lz 109 (.fn me109.f me109.args) me109.start (aR me109)) = true := by kernel_rfl
theorem zd : bH (bG KK Lz 110 (.fn me110.f me110.args) me110.start (aR me110)) = true := by kernel_rfl
theorem zb : bH (bG KJ Lz 111 (.fn me111.f me111.args) me111.start (aR me111)) = true := by kernel_rfl
theorem za : bH (bG KI Lz 112 (.fn me112.f me112.args) me112.start (aR me112)) = true := by kernel_rfl
theorem y2 : bH (bG KH Lz 113 (.fn me113.f me113.args) me113.start (aR me113)) = true := by kernel_rfl
end Go.Proofs.YtopigipibioclaaGreatDoor.Ev
