/-
  The law's run, whole.
-/
import Derived.Test.YtedembbgeljdkaaGreatDoorR0
import Derived.Test.YtedembbgeljdkaaGreatDoorRz
import Derived.Test.YtedembbgeljdkaaGreatDoorChecked
namespace Go.Proofs.YtedembbgeljdkaaGreatDoor.Ev
open Go
set_option maxRecDepth 1000000
set_option linter.all false
theorem all0 : AllV Tryz.prog mes 0 := AllV.zero
theorem all1 : AllV Tryz.prog mes 1 := all0.next globPlain (Checked.mixed Tryz.checked) tabOK ftabOK me0 rfl rfl run0
theorem all2 : AllV Tryz.prog mes 2 := all1.next globPlain (Checked.mixed Tryz.checked) tabOK ftabOK me1 rfl rfl run1
theorem all3 : AllV Tryz.prog mes 3 := all2.next globPlain (Checked.mixed Tryz.checked) tabOK ftabOK me2 rfl rfl run2
theorem all4 : AllV Tryz.prog mes 4 := all3.next globPlain (Checked.mixed Tryz.checked) tabOK ftabOK me3 rfl rfl run3
theorem all5 : AllV Tryz.prog mes 5 := all4.next globPlain (Checked.mixed Tryz.checked) tabOK ftabOK me4 rfl rfl run4
theorem all6 : AllV Tryz.prog mes 6 := all5.next globPlain (Checked.mixed Tryz.checked) tabOK ftabOK me5 rfl rfl run5
theorem all7 : AllV Tryz.prog mes 7 := all6.next globPlain (Checked.mixed Tryz.checked) tabOK ftabOK me6 rfl rfl run6
theorem all8 : AllV Tryz.prog mes 8 := all7.next globPlain (Checked.mixed Tryz.checked) tabOK ftabOK me7 rfl rfl run7
theorem all9 : AllV Tryz.prog mes 9 := all8.next globPlain (Checked.mixed Tryz.checked) tabOK ftabOK me8 rfl rfl run8
theorem all10 : AllV Tryz.prog mes 10 := all9.next globPlain (Checked.mixed Tryz.checked) tabOK ftabOK me9 rfl rfl run9
theorem all11 : AllV Tryz.prog mes 11 := all10.next globPlain (Checked.mixed Tryz.checked) tabOK ftabOK me10 rfl rfl run10
theorem all12 : AllV Tryz.prog mes 12 := all11.next globPlain (Checked.mixed Tryz.checked) tabOK ftabOK me11 rfl rfl run11
theorem all13 : AllV Tryz.prog mes 13 := all12.next globPlain (Checked.mixed Tryz.checked) tabOK ftabOK me12 rfl rfl run12
theorem all14 : AllV Tryz.prog mes 14 := all13.next globPlain (Checked.mixed Tryz.checked) tabOK ftabOK me13 rfl rfl run13
theorem all15 : AllV Tryz.prog mes 15 := all14.next globPlain (Checked.mixed Tryz.checked) tabOK ftabOK me14 rfl rfl run14
theorem all16 : AllV Tryz.prog mes 16 := all15.next globPlain (Checked.mixed Tryz.checked) tabOK ftabOK me15 rfl rfl run15
theorem all17 : AllV Tryz.prog mes 17 := all16.next globPlain (Checked.mixed Tryz.checked) tabOK ftabOK me16 rfl rfl run16
theorem all18 : AllV Tryz.prog mes 18 := all17.next globPlain (Checked.mixed Tryz.checked) tabOK ftabOK me17 rfl rfl run17
theorem all19 : AllV Tryz.prog mes 19 := all18.next globPlain (Checked.mixed Tryz.checked) tabOK ftabOK me18 rfl rfl run18
theorem all20 : AllV Tryz.prog mes 20 := all19.next globPlain (Checked.mixed Tryz.checked) tabOK ftabOK me19 rfl rfl run19
theorem all21 : AllV Tryz.prog mes 21 := all20.next globPlain (Checked.mixed Tryz.checked) tabOK ftabOK me20 rfl rfl run20
theorem all22 : AllV Tryz.prog mes 22 := all21.next globPlain (Checked.mixed Tryz.checked) tabOK ftabOK me21 rfl rfl run21
theorem all23 : AllV Tryz.prog mes 23 := all22.next globPlain (Checked.mixed Tryz.checked) tabOK ftabOK me22 rfl rfl run22
theorem all24 : AllV Tryz.prog mes 24 := all23.next globPlain (Checked.mixed Tryz.checked) tabOK ftabOK me23 rfl rfl run23
theorem law_calls (w : World) (hG : GlobW w) : Calls Tryz.prog 3 #[] w fun e w' => e = .returned (.bool true) ∧ w'.os = w.os ∧ w'.output = w.output ∧ w.heap.size ≤ w'.heap.size ∧ ∀ c, c < w.heap.size → w'.heap[c]? = w.heap[c]? := by
  obtain ⟨H', h⟩ := run_law
  exact closed_calls_memo globPlain (Checked.mixed Tryz.checked) tabOK ftabOK all24 (afn := afn3) (by kernel_rfl) (fgood_ext ok3.2 (by kernel_rfl)) (by kernel_rfl) h w hG
end Go.Proofs.YtedembbgeljdkaaGreatDoor.Ev
