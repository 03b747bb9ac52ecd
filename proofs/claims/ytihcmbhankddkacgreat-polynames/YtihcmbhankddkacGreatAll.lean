/-
  The law's run, whole.
-/
import Derived.Test.YtihcmbhankddkacGreatR0
import Derived.Test.YtihcmbhankddkacGreatR1
import Derived.Test.YtihcmbhankddkacGreatR2
import Derived.Test.YtihcmbhankddkacGreatR3
import Derived.Test.YtihcmbhankddkacGreatRz
import Derived.Test.YtihcmbhankddkacGreatChecked
namespace Go.Proofs.YtihcmbhankddkacGreat.Ev
open Go
set_option maxRecDepth 1000000
set_option linter.all false
theorem all0 : AllV Tryz.prog mes 0 := AllV.zero
theorem all1 : AllV Tryz.prog mes 1 := all0.next (Checked.mixed Tryz.checked) tabOK ftabOK me0 rfl run0
theorem all2 : AllV Tryz.prog mes 2 := all1.next (Checked.mixed Tryz.checked) tabOK ftabOK me1 rfl run1
theorem all3 : AllV Tryz.prog mes 3 := all2.next (Checked.mixed Tryz.checked) tabOK ftabOK me2 rfl run2
theorem all4 : AllV Tryz.prog mes 4 := all3.next (Checked.mixed Tryz.checked) tabOK ftabOK me3 rfl run3
theorem all5 : AllV Tryz.prog mes 5 := all4.next (Checked.mixed Tryz.checked) tabOK ftabOK me4 rfl run4
theorem all6 : AllV Tryz.prog mes 6 := all5.next (Checked.mixed Tryz.checked) tabOK ftabOK me5 rfl run5
theorem all7 : AllV Tryz.prog mes 7 := all6.next (Checked.mixed Tryz.checked) tabOK ftabOK me6 rfl run6
theorem all8 : AllV Tryz.prog mes 8 := all7.next (Checked.mixed Tryz.checked) tabOK ftabOK me7 rfl run7
theorem all9 : AllV Tryz.prog mes 9 := all8.next (Checked.mixed Tryz.checked) tabOK ftabOK me8 rfl run8
theorem all10 : AllV Tryz.prog mes 10 := all9.next (Checked.mixed Tryz.checked) tabOK ftabOK me9 rfl run9
theorem all11 : AllV Tryz.prog mes 11 := all10.next (Checked.mixed Tryz.checked) tabOK ftabOK me10 rfl run10
theorem all12 : AllV Tryz.prog mes 12 := all11.next (Checked.mixed Tryz.checked) tabOK ftabOK me11 rfl run11
theorem all13 : AllV Tryz.prog mes 13 := all12.next (Checked.mixed Tryz.checked) tabOK ftabOK me12 rfl run12
theorem all14 : AllV Tryz.prog mes 14 := all13.next (Checked.mixed Tryz.checked) tabOK ftabOK me13 rfl run13
theorem all15 : AllV Tryz.prog mes 15 := all14.next (Checked.mixed Tryz.checked) tabOK ftabOK me14 rfl run14
theorem all16 : AllV Tryz.prog mes 16 := all15.next (Checked.mixed Tryz.checked) tabOK ftabOK me15 rfl run15
theorem all17 : AllV Tryz.prog mes 17 := all16.next (Checked.mixed Tryz.checked) tabOK ftabOK me16 rfl run16
theorem all18 : AllV Tryz.prog mes 18 := all17.next (Checked.mixed Tryz.checked) tabOK ftabOK me17 rfl run17
theorem all19 : AllV Tryz.prog mes 19 := all18.next (Checked.mixed Tryz.checked) tabOK ftabOK me18 rfl run18
theorem all20 : AllV Tryz.prog mes 20 := all19.next (Checked.mixed Tryz.checked) tabOK ftabOK me19 rfl run19
theorem all21 : AllV Tryz.prog mes 21 := all20.next (Checked.mixed Tryz.checked) tabOK ftabOK me20 rfl run20
theorem all22 : AllV Tryz.prog mes 22 := all21.next (Checked.mixed Tryz.checked) tabOK ftabOK me21 rfl run21
theorem all23 : AllV Tryz.prog mes 23 := all22.next (Checked.mixed Tryz.checked) tabOK ftabOK me22 rfl run22
theorem all24 : AllV Tryz.prog mes 24 := all23.next (Checked.mixed Tryz.checked) tabOK ftabOK me23 rfl run23
theorem all25 : AllV Tryz.prog mes 25 := all24.next (Checked.mixed Tryz.checked) tabOK ftabOK me24 rfl run24
theorem law_calls (w : World) : Calls Tryz.prog 3 #[] w fun e w' => e = .returned (.bool true) ∧ w'.os = w.os ∧ w'.output = w.output ∧ w.heap.size ≤ w'.heap.size ∧ ∀ c, c < w.heap.size → w'.heap[c]? = w.heap[c]? := by
  obtain ⟨H', h⟩ := run_law
  exact closed_calls_memo (Checked.mixed Tryz.checked) tabOK ftabOK all25 (afn := afn3) (by kernel_rfl) (fgood_ext ok3.2 (by kernel_rfl)) (by kernel_rfl) h w
end Go.Proofs.YtihcmbhankddkacGreat.Ev
