/-
  Calls of the law's run, run by the kernel.
-/
import Derived.Test.YtopigipibioclaaGreatDoorMt
import Derived.KernelRfl
namespace Go.Proofs.YtopigipibioclaaGreatDoor.Ev
open Go
set_option maxHeartbeats 4000000
set_option maxRecDepth 1000000
set_option linter.all false
theorem LZ : bH (bG tr45 Lz 45 (.fn me45.f me45.args) me45.start (aR me45)) = true := by kernel_rfl
theorem LY : bH (bG Z9 Lz 46 (.fn me46.f me46.args) me46.start (aR me46)) = true := by kernel_rfl
theorem LX : bH (bG Z8 Lz 47 (.fn me47.f me47.args) me47.start (aR me47)) = true := by kernel_rfl
theorem LW : bH (bG Z7 Lz 48 (.fn me48.f me48.args) me48.start (aR me48)) = true := by kernel_rfl
theorem LV : bH (bG Z6 Lz 49 (.fn me49.f me49.args) me49.start (aR me49)) = true := by kernel_rfl
theorem LU : bH (bG Z5 Lz 50 (.fn me50.f me50.args) me50.start (aR me50)) = true := by kernel_rfl
theorem LT : bH (bG Z4 Lz 51 (.fn me51.f me51.args) me51.start (aR me51)) = true := by kernel_rfl
theorem LS : bH (bG Lz Lz 52 (.fn me52.f me52.args) me52.start (aR me52)) = true := by kernel_rfl
theorem LQ : bH (bG Z3 Lz 53 (.fn me53.f me53.args) me53.start (aR me53)) = true := by kernel_rfl
theorem LP : bH (bG Z2 Lz 54 (.fn me54.f me54.args) me54.start (aR me54)) = true := by kernel_rfl
theorem LO : bH (bG Z1 Lz 55 (.fn me55.f me55.args) me55.start (aR me55)) = true := by kernel_rfl
theorem LN : bH (bG Z0 Lz 56 (.fn me56.f me56.args) me56.start (aR me56)) = true := by kernel_rfl
theorem LM : bH (bG ZZ Lz 57 (.fn me57.f me57.args) me57.start (aR me57)) = true := by kernel_rfl
theorem LL : bH (bG ZY Lz 58 (.fn me58.f me58.args) me58.start (aR me58)) = true := by kernel_rfl
theorem LK : bH (bG ZX Lz 59 (.fn me59.f me59.args) me59.start (aR me59)) = true := by kernel_rfl
theorem LJ : bH (bG ZW Lz 60 (.fn me60.f me60.args) me60.start (aR me60)) = true := by kernel_rfl
theorem LI : bH (bG ZV Lz 61 (.fn me61.f me61.args) me61.start (aR me61)) = true := by kernel_rfl
theorem LH : bH (bG ZU Lz 62 (.fn me62.f me62.args) me62.start (aR me62)) = true := by kernel_rfl
theorem LG : bH (bG ZT Lz 63 (.fn me63.f me63.args) me63.start (aR me63)) = true := by kernel_rfl
theorem LF : bH (bG ZS Lz 64 (.fn me64.f me64.args) me64.start (aR me64)) = true := by kernel_rfl
end Go.Proofs.YtopigipibioclaaGreatDoor.Ev
