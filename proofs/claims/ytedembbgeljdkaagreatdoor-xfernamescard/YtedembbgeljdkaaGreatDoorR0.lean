/-
  Calls of the law's run, run by the kernel.
-/
import Derived.Test.YtedembbgeljdkaaGreatDoorMt
import Derived.KernelRfl
namespace Go.Proofs.YtedembbgeljdkaaGreatDoor.Ev
open Go
set_option maxRecDepth 1000000
set_option linter.all false
theorem run0 : isSm (runM tr0 tp0 0 (.fn me0.f me0.args) me0.start (toldK me0)) = true := by kernel_rfl
theorem run1 : isSm (runM tr1 tp1 1 (.fn me1.f me1.args) me1.start (toldK me1)) = true := by kernel_rfl
theorem run2 : isSm (runM tr2 tp2 2 (.fn me2.f me2.args) me2.start (toldK me2)) = true := by kernel_rfl
theorem run3 : isSm (runM tr3 tp3 3 (.fn me3.f me3.args) me3.start (toldK me3)) = true := by kernel_rfl
theorem run4 : isSm (runM tr4 tp4 4 (.fn me4.f me4.args) me4.start (toldK me4)) = true := by kernel_rfl
theorem run5 : isSm (runM tr5 tp5 5 (.fn me5.f me5.args) me5.start (toldK me5)) = true := by kernel_rfl
theorem run6 : isSm (runM tr6 tp6 6 (.fn me6.f me6.args) me6.start (toldK me6)) = true := by kernel_rfl
theorem run7 : isSm (runM tr7 tp7 7 (.fn me7.f me7.args) me7.start (toldK me7)) = true := by kernel_rfl
theorem run8 : isSm (runM tr8 tp8 8 (.fn me8.f me8.args) me8.start (toldK me8)) = true := by kernel_rfl
theorem run9 : isSm (runM tr9 tp9 9 (.fn me9.f me9.args) me9.start (toldK me9)) = true := by kernel_rfl
theorem run10 : isSm (runM tr10 tp10 10 (.fn me10.f me10.args) me10.start (toldK me10)) = true := by kernel_rfl
theorem run11 : isSm (runM tr11 tp11 11 (.fn me11.f me11.args) me11.start (toldK me11)) = true := by kernel_rfl
theorem run12 : isSm (runM tr12 tp12 12 (.fn me12.f me12.args) me12.start (toldK me12)) = true := by kernel_rfl
theorem run13 : isSm (runM tr13 tp13 13 (.fn me13.f me13.args) me13.start (toldK me13)) = true := by kernel_rfl
theorem run14 : isSm (runM tr14 tp14 14 (.fn me14.f me14.args) me14.start (toldK me14)) = true := by kernel_rfl
theorem run15 : isSm (runM tr15 tp15 15 (.fn me15.f me15.args) me15.start (toldK me15)) = true := by kernel_rfl
theorem run16 : isSm (runM tr16 tp16 16 (.fn me16.f me16.args) me16.start (toldK me16)) = true := by kernel_rfl
theorem run17 : isSm (runM tr17 tp17 17 (.fn me17.f me17.args) me17.start (toldK me17)) = true := by kernel_rfl
theorem run18 : isSm (runM tr18 tp18 18 (.fn me18.f me18.args) me18.start (toldK me18)) = true := by kernel_rfl
theorem run19 : isSm (runM tr19 tp19 19 (.fn me19.f me19.args) me19.start (toldK me19)) = true := by kernel_rfl
theorem run20 : isSm (runM tr20 tp20 20 (.fn me20.f me20.args) me20.start (toldK me20)) = true := by kernel_rfl
theorem run21 : isSm (runM tr21 tp21 21 (.fn me21.f me21.args) me21.start (toldK me21)) = true := by kernel_rfl
theorem run22 : isSm (runM tr22 tp22 22 (.fn me22.f me22.args) me22.start (toldK me22)) = true := by kernel_rfl
theorem run23 : isSm (runM tr23 tp23 23 (.fn me23.f me23.args) me23.start (toldK me23)) = true := by kernel_rfl
end Go.Proofs.YtedembbgeljdkaaGreatDoor.Ev
