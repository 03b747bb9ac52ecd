/-
  Calls of the law's run, run by the kernel.
-/
import Derived.Test.YtihcmbhankddkadGreatMt
import Derived.KernelRfl
namespace Go.Proofs.YtihcmbhankddkadGreat.Ev
open Go
set_option maxRecDepth 1000000
set_option linter.all false
theorem run64 : isSm (runM 64 (.fn me64.f me64.args) me64.start (toldK me64)) = true := by kernel_rfl
theorem run65 : isSm (runM 65 (.fn me65.f me65.args) me65.start (toldK me65)) = true := by kernel_rfl
theorem run66 : isSm (runM 66 (.fn me66.f me66.args) me66.start (toldK me66)) = true := by kernel_rfl
theorem run67 : isSm (runM 67 (.fn me67.f me67.args) me67.start (toldK me67)) = true := by kernel_rfl
theorem run68 : isSm (runM 68 (.fn me68.f me68.args) me68.start (toldK me68)) = true := by kernel_rfl
theorem run69 : isSm (runM 69 (.fn me69.f me69.args) me69.start (toldK me69)) = true := by kernel_rfl
theorem run70 : isSm (runM 70 (.fn me70.f me70.args) me70.start (toldK me70)) = true := by kernel_rfl
theorem run71 : isSm (runM 71 (.fn me71.f me71.args) me71.start (toldK me71)) = true := by kernel_rfl
theorem run72 : isSm (runM 72 (.fn me72.f me72.args) me72.start (toldK me72)) = true := by kernel_rfl
theorem run73 : isSm (runM 73 (.fn me73.f me73.args) me73.start (toldK me73)) = true := by kernel_rfl
theorem run74 : isSm (runM 74 (.fn me74.f me74.args) me74.start (toldK me74)) = true := by kernel_rfl
theorem run75 : isSm (runM 75 (.fn me75.f me75.args) me75.start (toldK me75)) = true := by kernel_rfl
theorem run76 : isSm (runM 76 (.fn me76.f me76.args) me76.start (toldK me76)) = true := by kernel_rfl
theorem run77 : isSm (runM 77 (.fn me77.f me77.args) me77.start (toldK me77)) = true := by kernel_rfl
theorem run78 : isSm (runM 78 (.fn me78.f me78.args) me78.start (toldK me78)) = true := by kernel_rfl
theorem run79 : isSm (runM 79 (.fn me79.f me79.args) me79.start (toldK me79)) = true := by kernel_rfl
end Go.Proofs.YtihcmbhankddkadGreat.Ev
