/-
  The law's run, whole.
-/
import Derived.Test.YtjenkjblcpinnaaGreatR0
import Derived.Test.YtjenkjblcpinnaaGreatRz
import Derived.Test.YtjenkjblcpinnaaGreatChecked
namespace Go.Proofs.YtjenkjblcpinnaaGreat.Ev
open Go
set_option maxRecDepth 1000000
set_option linter.all false
theorem all0 : AllV Tryz.prog mes 0 := AllV.zero
theorem all1 : AllV Tryz.prog mes 1 := all0.next (Checked.mixed Tryz.checked) tabOK ftabOK me0 rfl run0
theorem law_calls (w : World) : Calls Tryz.prog 3 #[] w fun e w' => e = .returned (.bool true) ∧ w'.os = w.os ∧ w'.output = w.output ∧ w.heap.size ≤ w'.heap.size ∧ ∀ c, c < w.heap.size → w'.heap[c]? = w.heap[c]? := by
  obtain ⟨H', h⟩ := run_law
  exact closed_calls_memo (Checked.mixed Tryz.checked) tabOK ftabOK all1 (afn := afn3) (by kernel_rfl) (fgood_ext ok3.2 (by kernel_rfl)) (by kernel_rfl) h w
end Go.Proofs.YtjenkjblcpinnaaGreat.Ev
