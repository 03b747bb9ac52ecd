/-
  Calls of the law's run, run by the kernel.
-/
import Derived.Test.YtopigipibioclaaGreatDoorMt
import Derived.KernelRfl
namespace Go.Proofs.YtopigipibioclaaGreatDoor.Ev
open Go
set_option maxHeartbeats 4000000
set_option maxRecDepth 1000000
set_option linter.all false
theorem LE : bH (bG ZR Lz 65 (.fn me65.f me65.args) me65.start (aR me65)) = true := by kernel_rfl
theorem LD : bH (bG ZQ Lz 66 (.fn me66.f me66.args) me66.start (aR me66)) = true := by kernel_rfl
theorem LC : bH (bG ZP Lz 67 (.fn me67.f me67.args) me67.start (aR me67)) = true := by kernel_rfl
theorem LB : bH (bG ZO Lz 68 (.fn me68.f me68.args) me68.start (aR me68)) = true := by kernel_rfl
theorem LA : bH (bG ZN Lz 69 (.fn me69.f me69.args) me69.start (aR me69)) = true := by kernel_rfl
theorem Ly : bH (bG ZM Lz 70 (.fn me70.f me70.args) me70.start (aR me70)) = true := by kernel_rfl
theorem Lx : bH (bG ZL Lz 71 (.fn me71.f me71.args) me71.start (aR me71)) = true := by kernel_rfl
theorem Lw : bH (bG ZK Lz 72 (.fn me72.f me72.args) me72.start (aR me72)) = true := by kernel_rfl
theorem Lv : bH (bG ZJ Lz 73 (.fn me73.f me73.args) me73.start (aR me73)) = true := by kernel_rfl
theorem Lu : bH (bG ZI Lz 74 (.fn me74.f me74.args) me74.start (aR me74)) = true := by kernel_rfl
theorem Lt : bH (bG ZH Lz 75 (.fn me75.f me75.args) me75.start (aR me75)) = true := by kernel_rfl
theorem Ls : bH (bG ZG Lz 76 (.fn me76.f me76.args) me76.start (aR me76)) = true := by kernel_rfl
theorem Lr : bH (bG ZF Lz 77 (.fn me77.f me77.args) me77.start (aR me77)) = true := by kernel_rfl
theorem Lq : bH (bG ZE Lz 78 (.fn me78.f me78.args) me78.start (aR me78)) = true := by kernel_rfl
end Go.Proofs.YtopigipibioclaaGreatDoor.Ev
