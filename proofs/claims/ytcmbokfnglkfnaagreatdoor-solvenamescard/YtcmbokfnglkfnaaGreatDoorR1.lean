/-
  Calls of the law's run, run by the kernel.
-/
import Derived.Test.YtcmbokfnglkfnaaGreatDoorMt
import Derived.KernelRfl
namespace Go.Proofs.YtcmbokfnglkfnaaGreatDoor.Ev
open Go
set_option maxRecDepth 1000000
set_option maxHeartbeats 4000000
set_option linter.all false
theorem run37 : isSm (runM tr37 tp37 37 (.fn me37.f me37.args) me37.start (toldK me37)) = true := by kernel_rfl
theorem run38 : isSm (runM tr38 tp38 38 (.fn me38.f me38.args) me38.start (toldK me38)) = true := by kernel_rfl
theorem run39 : isSm (runM tr39 tp39 39 (.fn me39.f me39.args) me39.start (toldK me39)) = true := by kernel_rfl
theorem run40 : isSm (runM tr40 tp40 40 (.fn me40.f me40.args) me40.start (toldK me40)) = true := by kernel_rfl
theorem run41 : isSm (runM tr41 tp41 41 (.fn me41.f me41.args) me41.start (toldK me41)) = true := by kernel_rfl
theorem run42 : isSm (runM tr42 tp42 42 (.fn me42.f me42.args) me42.start (toldK me42)) = true := by kernel_rfl
theorem run43 : isSm (runM tr43 tp43 43 (.fn me43.f me43.args) me43.start (toldK me43)) = true := by kernel_rfl
theorem run44 : isSm (runM tr44 tp44 44 (.fn me44.f me44.args) me44.start (toldK me44)) = true := by kernel_rfl
theorem run45 : isSm (runM tr45 tp45 45 (.fn me45.f me45.args) me45.start (toldK me45)) = true := by kernel_rfl
theorem run46 : isSm (runM tr46 tp46 46 (.fn me46.f me46.args) me46.start (toldK me46)) = true := by kernel_rfl
theorem run47 : isSm (runM tr47 tp47 47 (.fn me47.f me47.args) me47.start (toldK me47)) = true := by kernel_rfl
theorem run48 : isSm (runM tr48 tp48 48 (.fn me48.f me48.args) me48.start (toldK me48)) = true := by kernel_rfl
theorem run49 : isSm (runM tr49 tp49 49 (.fn me49.f me49.args) me49.start (toldK me49)) = true := by kernel_rfl
theorem run50 : isSm (runM tr50 tp50 50 (.fn me50.f me50.args) me50.start (toldK me50)) = true := by kernel_rfl
theorem run51 : isSm (runM tr51 tp51 51 (.fn me51.f me51.args) me51.start (toldK me51)) = true := by kernel_rfl
theorem run52 : isSm (runM tr52 tp52 52 (.fn me52.f me52.args) me52.start (toldK me52)) = true := by kernel_rfl
theorem run53 : isSm (runM tr53 tp53 53 (.fn me53.f me53.args) me53.start (toldK me53)) = true := by kernel_rfl
theorem run54 : isSm (runM tr54 tp54 54 (.fn me54.f me54.args) me54.start (toldK me54)) = true := by kernel_rfl
theorem run55 : isSm (runM tr55 tp55 55 (.fn me55.f me55.args) me55.start (toldK me55)) = true := by kernel_rfl
theorem run56 : isSm (runM tr56 tp56 56 (.fn me56.f me56.args) me56.start (toldK me56)) = true := by kernel_rfl
theorem run57 : isSm (runM tr57 tp57 57 (.fn me57.f me57.args) me57.start (toldK me57)) = true := by kernel_rfl
end Go.Proofs.YtcmbokfnglkfnaaGreatDoor.Ev
