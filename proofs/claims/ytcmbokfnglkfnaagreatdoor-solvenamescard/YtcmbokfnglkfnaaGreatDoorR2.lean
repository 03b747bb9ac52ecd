/-
  Calls of the law's run, run by the kernel.
-/
import Derived.Test.YtcmbokfnglkfnaaGreatDoorMt
import Derived.KernelRfl
namespace Go.Proofs.YtcmbokfnglkfnaaGreatDoor.Ev
open Go
set_option maxRecDepth 1000000
set_option maxHeartbeats 4000000
set_option linter.all false
theorem run58 : isSm (runM tr58 tp58 58 (.fn me58.f me58.args) me58.start (toldK me58)) = true := by kernel_rfl
theorem run59 : isSm (runM tr59 tp59 59 (.fn me59.f me59.args) me59.start (toldK me59)) = true := by kernel_rfl
theorem run60 : isSm (runM tr60 tp60 60 (.fn me60.f me60.args) me60.start (toldK me60)) = true := by kernel_rfl
theorem run61 : isSm (runM tr61 tp61 61 (.fn me61.f me61.args) me61.start (toldK me61)) = true := by kernel_rfl
theorem run62 : isSm (runM tr62 tp62 62 (.fn me62.f me62.args) me62.start (toldK me62)) = true := by kernel_rfl
theorem run63 : isSm (runM tr63 tp63 63 (.fn me63.f me63.args) me63.start (toldK me63)) = true := by kernel_rfl
theorem run64 : isSm (runM tr64 tp64 64 (.fn me64.f me64.args) me64.start (toldK me64)) = true := by kernel_rfl
theorem run65 : isSm (runM tr65 tp65 65 (.fn me65.f me65.args) me65.start (toldK me65)) = true := by kernel_rfl
theorem run66 : isSm (runM tr66 tp66 66 (.fn me66.f me66.args) me66.start (toldK me66)) = true := by kernel_rfl
theorem run67 : isSm (runM tr67 tp67 67 (.fn me67.f me67.args) me67.start (toldK me67)) = true := by kernel_rfl
theorem run68 : isSm (runM tr68 tp68 68 (.fn me68.f me68.args) me68.start (toldK me68)) = true := by kernel_rfl
theorem run69 : isSm (runM tr69 tp69 69 (.fn me69.f me69.args) me69.start (toldK me69)) = true := by kernel_rfl
theorem run70 : isSm (runM tr70 tp70 70 (.fn me70.f me70.args) me70.start (toldK me70)) = true := by kernel_rfl
theorem run71 : isSm (runM tr71 tp71 71 (.fn me71.f me71.args) me71.start (toldK me71)) = true := by kernel_rfl
theorem run72 : isSm (runM tr72 tp72 72 (.fn me72.f me72.args) me72.start (toldK me72)) = true := by kernel_rfl
theorem run73 : isSm (runM tr73 tp73 73 (.fn me73.f me73.args) me73.start (toldK me73)) = true := by kernel_rfl
end Go.Proofs.YtcmbokfnglkfnaaGreatDoor.Ev
