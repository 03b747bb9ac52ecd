/-
  Calls of the law's run, run by the kernel.
-/
import Derived.Test.YtopigipibioclaaGreatDoorMt
import Derived.KernelRfl
namespace Go.Proofs.YtopigipibioclaaGreatDoor.Ev
open Go
set_option maxHeartbeats 4000000
set_option maxRecDepth 1000000
set_option linter.all false
theorem run0 : bH (bG Lz Lz 0 (.fn me0.f me0.args) me0.start (aR me0)) = true := by kernel_rfl
theorem run1 : bH (ga (iQ (Q4.get fS) (iZ (bG Lz Lz 1)) (fO (iI cZ Lz 1)) 1000000 me1.f me1.args me1.start) fun r => nV r (aR me1)) = true := by kernel_rfl
theorem run2 : bH (ga (iQ (Q4.get fS) (iZ (bG Lz tp2 2)) (fO (iI cZ tp2 2)) 1000000 me2.f me2.args me2.start) fun r => nV r (aR me2)) = true := by kernel_rfl
theorem run3 : bH (ga (iQ (Q4.get fS) (iZ (bG Lz tp3 3)) (fO (iI cZ tp3 3)) 1000000 me3.f me3.args me3.start) fun r => nV r (aR me3)) = true := by kernel_rfl
theorem run4 : bH (ga (iQ (Q4.get fS) (iZ (bG Lz tp4 4)) (fO (iI cZ tp4 4)) 1000000 me4.f me4.args me4.start) fun r => nV r (aR me4)) = true := by kernel_rfl
theorem run5 : bH (ga (iQ (Q4.get fS) (iZ (bG Lz tp5 5)) (fO (iI cZ tp5 5)) 1000000 me5.f me5.args me5.start) fun r => nV r (aR me5)) = true := by kernel_rfl
theorem run6 : bH (ga (iQ (Q4.get fS) (iZ (bG Lz tp6 6)) (fO (iI cZ tp6 6)) 1000000 me6.f me6.args me6.start) fun r => nV r (aR me6)) = true := by kernel_rfl
theorem run7 : bH (ga (iQ (Q4.get fS) (iZ (bG Lz tp7 7)) (fO (iI cZ tp7 7)) 1000000 me7.f me7.args me7.start) fun r => nV r (aR me7)) = true := by kernel_rfl
theorem run8 : bH (bG Lz Lz 8 (.fn me8.f me8.args) me8.start (aR me8)) = true := by kernel_rfl
theorem run9 : bH (bG tr9 Lz 9 (.fn me9.f me9.args) me9.start (aR me9)) = true := by kernel_rfl
theorem MC : bH (bG Lz Lz 10 (.fn me10.f me10.args) me10.start (aR me10)) = true := by kernel_rfl
theorem MB : bH (bG Lz Lz 11 (.fn me11.f me11.args) me11.start (aR me11)) = true := by kernel_rfl
theorem MA : bH (bG Lz Lz 12 (.fn me12.f me12.args) me12.start (aR me12)) = true := by kernel_rfl
theorem Mz : bH (bG tr13 Lz 13 (.fn me13.f me13.args) me13.start (aR me13)) = true := by kernel_rfl
theorem My : bH (bG tr14 Lz 14 (.fn me14.f me14.args) me14.start (aR me14)) = true := by kernel_rfl
theorem Mx : bH (bG Lz Lz 15 (.fn me15.f me15.args) me15.start (aR me15)) = true := by kernel_rfl
theorem Mw : bH (bG Lz Lz 16 (.fn me16.f me16.args) me16.start (aR me16)) = true := by kernel_rfl
theorem Mv : bH (bG tr17 Lz 17 (.fn me17.f me17.args) me17.start (aR me17)) = true := by kernel_rfl
theorem Mt : bH (bG tr18 Lz 18 (.fn me18.f me18.args) me18.start (aR me18)) = true := by kernel_rfl
theorem Ms : bH (bG tr19 Lz 19 (.fn me19.f me19.args) me19.start (aR me19)) = true := by kernel_rfl
theorem Mr : bH (bG tr20 Lz 20 (.fn me20.f me20.args) me20.start (aR me20)) = true := by kernel_rfl
theorem Mq : bH (bG tr21 Lz 21 (.fn me21.f me21.args) me21.start (aR me21)) = true := by kernel_rfl
theorem Mp : bH (bG tr22 Lz 22 (.fn me22.f me22.args) me22.start (aR me22)) = true := by kernel_rfl
theorem Mo : bH (bG Lz Lz 23 (.fn me23.f me23.args) me23.start (aR me23)) = true := by kernel_rfl
theorem Mn : bH (bG Lz Lz 24 (.fn me24.f me24.args) me24.start (aR me24)) = true := by kernel_rfl
theorem Mm : bH (bG Lz Lz 25 (.fn me25.f me25.args) me25.start (aR me25)) = true := by kernel_rfl
theorem Ml : bH (bG tr26 Lz 26 (.fn me26.f me26.args) me26.start (aR me26)) = true := by kernel_rfl
theorem Mk : bH (bG Lz Lz 27 (.fn me27.f me27.args) me27.start (aR me27)) = true := by kernel_rfl
theorem Mj : bH (bG tr28 Lz 28 (.fn me28.f me28.args) me28.start (aR me28)) = true := by kernel_rfl
theorem Mi : bH (bG Lz Lz 29 (.fn me29.f me29.args) me29.start (aR me29)) = true := by kernel_rfl
theorem Mh : bH (bG Lz Lz 30 (.fn me30.f me30.args) me30.start (aR me30)) = true := by kernel_rfl
theorem Mg : bH (bG Lz Lz 31 (.fn me31.f me31.args) me31.start (aR me31)) = true := by kernel_rfl
theorem Mf : bH (bG tr32 Lz 32 (.fn me32.f me32.args) me32.start (aR me32)) = true := by kernel_rfl
theorem Me : bH (bG tr33 Lz 33 (.fn me33.f me33.args) me33.start (aR me33)) = true := by kernel_rfl
theorem Md : bH (bG Lz Lz 34 (.fn me34.f me34.args) me34.start (aR me34)) = true := by kernel_rfl
theorem Mc : bH (bG tr35 Lz 35 (.fn me35.f me35.args) me35.start (aR me35)) = true := by kernel_rfl
theorem Mb : bH (bG tr36 Lz 36 (.fn me36.f me36.args) me36.start (aR me36)) = true := by kernel_rfl
theorem Ma : bH (bG tr37 Lz 37 (.fn me37.f me37.args) me37.start (aR me37)) = true := by kernel_rfl
theorem L9 : bH (bG Lz Lz 38 (.fn me38.f me38.args) me38.start (aR me38)) = true := by kernel_rfl
theorem L8 : bH (bG tr39 Lz 39 (.fn me39.f me39.args) me39.start (aR me39)) = true := by kernel_rfl
theorem L7 : bH (bG tr40 Lz 40 (.fn me40.f me40.args) me40.start (aR me40)) = true := by kernel_rfl
theorem L6 : bH (bG tr41 Lz 41 (.fn me41.f me41.args) me41.start (aR me41)) = true := by kernel_rfl
theorem L5 : bH (bG tr42 Lz 42 (.fn me42.f me42.args) me42.start (aR me42)) = true := by kernel_rfl
theorem L4 : bH (bG tr43 Lz 43 (.fn me43.f me43.args) me43.start (aR me43)) = true := by kernel_rfl
theorem L3 : bH (bG tr44 Lz 44 (.fn me44.f me44.args) me44.start (aR me44)) = true := by kernel_rfl
end Go.Proofs.YtopigipibioclaaGreatDoor.Ev
