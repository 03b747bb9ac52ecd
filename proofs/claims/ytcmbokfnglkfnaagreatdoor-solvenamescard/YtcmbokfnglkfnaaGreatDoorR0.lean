/-
  Calls of the law's run, run by the kernel.
-/
import Derived.Test.YtcmbokfnglkfnaaGreatDoorMt
import Derived.KernelRfl
namespace Go.Proofs.YtcmbokfnglkfnaaGreatDoor.Ev
open Go
set_option maxRecDepth 1000000
set_option maxHeartbeats 4000000
set_option linter.all false
theorem run0 : isSm (runM tr0 tp0 0 (.fn me0.f me0.args) me0.start (toldK me0)) = true := by kernel_rfl
theorem run1 : isSm (runM tr1 tp1 1 (.fn me1.f me1.args) me1.start (toldK me1)) = true := by kernel_rfl
theorem run2 : isSm (runM tr2 tp2 2 (.fn me2.f me2.args) me2.start (toldK me2)) = true := by kernel_rfl
theorem run3 : isSm (runM tr3 tp3 3 (.fn me3.f me3.args) me3.start (toldK me3)) = true := by kernel_rfl
theorem run4 : isSm (runM tr4 tp4 4 (.fn me4.f me4.args) me4.start (toldK me4)) = true := by kernel_rfl
theorem run5 : isSm (runM tr5 tp5 5 (.fn me5.f me5.args) me5.start (toldK me5)) = true := by kernel_rfl
theorem run6 : isSm (runM tr6 tp6 6 (.fn me6.f me6.args) me6.start (toldK me6)) = true := by kernel_rfl
theorem run7 : isSm (runM tr7 tp7 7 (.fn me7.f me7.args) me7.start (toldK me7)) = true := by kernel_rfl
theorem run8 : isSm (runM tr8 tp8 8 (.fn me8.f me8.args) me8.start (toldK me8)) = true := by kernel_rfl
theorem run9 : isSm (runM tr9 tp9 9 (.fn me9.f me9.args) me9.start (toldK me9)) = true := by kernel_rfl
theorem run10 : isSm (runM tr10 tp10 10 (.fn me10.f me10.args) me10.start (toldK me10)) = true := by kernel_rfl
theorem run11 : isSm (runM tr11 tp11 11 (.fn me11.f me11.args) me11.start (toldK me11)) = true := by kernel_rfl
theorem run12 : isSm (runM tr12 tp12 12 (.fn me12.f me12.args) me12.start (toldK me12)) = true := by kernel_rfl
theorem run13 : isSm (runM tr13 tp13 13 (.fn me13.f me13.args) me13.start (toldK me13)) = true := by kernel_rfl
theorem run14 : isSm (runM tr14 tp14 14 (.fn me14.f me14.args) me14.start (toldK me14)) = true := by kernel_rfl
theorem run15 : isSm (optK (runP1 (Q4.get afntab) (calD (runM tr15 tp15 15)) (memoP (ptab mes tp15 15)) 1000000 me15.f me15.args me15.start) fun r => prK r (toldK me15)) = true := by kernel_rfl
theorem run16 : isSm (optK (runP1 (Q4.get afntab) (calD (runM tr16 tp16 16)) (memoP (ptab mes tp16 16)) 1000000 me16.f me16.args me16.start) fun r => prK r (toldK me16)) = true := by kernel_rfl
theorem run17 : isSm (optK (runP1 (Q4.get afntab) (calD (runM tr17 tp17 17)) (memoP (ptab mes tp17 17)) 1000000 me17.f me17.args me17.start) fun r => prK r (toldK me17)) = true := by kernel_rfl
theorem run18 : isSm (runM tr18 tp18 18 (.fn me18.f me18.args) me18.start (toldK me18)) = true := by kernel_rfl
theorem run19 : isSm (runM tr19 tp19 19 (.fn me19.f me19.args) me19.start (toldK me19)) = true := by kernel_rfl
theorem run20 : isSm (runM tr20 tp20 20 (.fn me20.f me20.args) me20.start (toldK me20)) = true := by kernel_rfl
theorem run21 : isSm (runM tr21 tp21 21 (.fn me21.f me21.args) me21.start (toldK me21)) = true := by kernel_rfl
theorem run22 : isSm (runM tr22 tp22 22 (.fn me22.f me22.args) me22.start (toldK me22)) = true := by kernel_rfl
theorem run23 : isSm (runM tr23 tp23 23 (.fn me23.f me23.args) me23.start (toldK me23)) = true := by kernel_rfl
theorem run24 : isSm (runM tr24 tp24 24 (.fn me24.f me24.args) me24.start (toldK me24)) = true := by kernel_rfl
theorem run25 : isSm (runM tr25 tp25 25 (.fn me25.f me25.args) me25.start (toldK me25)) = true := by kernel_rfl
theorem run26 : isSm (runM tr26 tp26 26 (.fn me26.f me26.args) me26.start (toldK me26)) = true := by kernel_rfl
theorem run27 : isSm (runM tr27 tp27 27 (.fn me27.f me27.args) me27.start (toldK me27)) = true := by kernel_rfl
theorem run28 : isSm (runM tr28 tp28 28 (.fn me28.f me28.args) me28.start (toldK me28)) = true := by kernel_rfl
theorem run29 : isSm (runM tr29 tp29 29 (.fn me29.f me29.args) me29.start (toldK me29)) = true := by kernel_rfl
theorem run30 : isSm (runM tr30 tp30 30 (.fn me30.f me30.args) me30.start (toldK me30)) = true := by kernel_rfl
theorem run31 : isSm (runM tr31 tp31 31 (.fn me31.f me31.args) me31.start (toldK me31)) = true := by kernel_rfl
theorem run32 : isSm (runM tr32 tp32 32 (.fn me32.f me32.args) me32.start (toldK me32)) = true := by kernel_rfl
theorem run33 : isSm (runM tr33 tp33 33 (.fn me33.f me33.args) me33.start (toldK me33)) = true := by kernel_rfl
theorem run34 : isSm (runM tr34 tp34 34 (.fn me34.f me34.args) me34.start (toldK me34)) = true := by kernel_rfl
theorem run35 : isSm (runM tr35 tp35 35 (.fn me35.f me35.args) me35.start (toldK me35)) = true := by kernel_rfl
theorem run36 : isSm (runM tr36 tp36 36 (.fn me36.f me36.args) me36.start (toldK me36)) = true := by kernel_rfl
end Go.Proofs.YtcmbokfnglkfnaaGreatDoor.Ev
