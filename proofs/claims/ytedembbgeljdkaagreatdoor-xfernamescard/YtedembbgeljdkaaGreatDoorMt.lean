/-
  The table of those calls.
-/
import Derived.Test.YtedembbgeljdkaaGreatDoorMe0
import Derived.Test.YtedembbgeljdkaaGreatDoorOk
import Derived.KernelRfl
namespace Go.Proofs.YtedembbgeljdkaaGreatDoor.Ev
open Go
set_option maxRecDepth 1000000
set_option linter.all false
def mes : List ME := [me0, me1, me2, me3, me4, me5, me6, me7, me8, me9, me10, me11, me12, me13, me14, me15, me16, me17, me18, me19, me20, me21, me22, me23]
def trR : MTree := (.node (.node (.node (.node (.node .leaf 5464 0 [] .leaf) 9874 0 [] .leaf) 14212 0 [] (.node .leaf 17977 0 [] .leaf)) 22233 0 [] (.node (.node (.node .leaf 26105 0 [] .leaf) 30208 0 [] .leaf) 35712 6 [] (.node .leaf 67890 9 [50800, 67742, 46110, 50450, 67769, 67848, 46375, 46774, 50484, 50515] .leaf))) 132519 12 [34931, 132495, 132484, 34914, 132494, 132265, 117470, 34906, 127778, 117132, 128043, 128442, 117166, 117197] (.node (.node (.node (.node .leaf 209161 13 [209067, 209131] .leaf) 209684 14 [209067, 209131] .leaf) 219300 13 [209067, 209131] (.node .leaf 222589 12 [34931, 222564, 132484, 34914, 222563, 132265, 117470, 34906, 127778, 117132, 128043, 128442, 117166, 117197] .leaf)) 299398 13 [299304, 299368] (.node (.node .leaf 299921 14 [299304, 299368] .leaf) 305914 13 [299304, 299368] (.node .leaf 309156 23 [] .leaf))))
def tpR : MTree := .leaf
noncomputable def runM (t tp : MTree) (b : Nat) : CalK := fcalM (Q4.get afntab) (memoP (ptab mes tp b)) (Q4.get ffntab) (mtab mes t b) 1000000 (199 + 1)
theorem globPlain : GlobPlain := by
  intro g cs h
  by_cases e2 : g = 2
  · subst e2; rw [← Option.some.inj ((show Glob 2 = some ((Glob 2).getD []) by kernel_rfl).symm.trans h)]; kernel_rfl
  by_cases e3 : g = 3
  · subst e3; rw [← Option.some.inj ((show Glob 3 = some ((Glob 3).getD []) by kernel_rfl).symm.trans h)]; kernel_rfl
  exfalso
  unfold Glob at h
  rw [show Nat.beq g 2 = false from nbeq_ne e2, cond_false] at h
  rw [show Nat.beq g 3 = false from nbeq_ne e3, cond_false] at h
  cases h
end Go.Proofs.YtedembbgeljdkaaGreatDoor.Ev
