/-
  The table of those calls.
-/
import Derived.Test.YtopigipibioclaaGreatDoorMe0
import Derived.Test.YtopigipibioclaaGreatDoorMe1
import Derived.Test.YtopigipibioclaaGreatDoorMe2
import Derived.Test.YtopigipibioclaaGreatDoorOk
import Derived.KernelRfl
namespace Go.Proofs.YtopigipibioclaaGreatDoor.Ev
open Go
set_option maxRecDepth 1000000
set_option linter.all false
def cZ : List ME := [me0, me1, me2, me3, me4, me5, me6, me7, me8, me9, me10, me11, me12, me13, me14, me15, me16, me17, me18, me19, me20, me21, me22, me23, me24, me25, me26, me27, me28, me29, me30, me31, me32, me33, me34, me35, me36, me37, me38, me39, me40, me41, me42, me43, me44, me45, me46, me47, me48, me49, me50, me51, me52, me53, me54, me55, me56, me57, me58, me59, me60, me61, me62, me63, me64, me65, me66, me67, me68, me69, me70, me71, me72, me73, me74, me75, me76, me77, me78, me79, me80, me81, me82, me83, me84, me85, me86, me87, me88, me89, me90, me91, me92, me93, me94, me95, me96, me97, me98, me99, me100, me101, me102, me103, me104, me105, me106, me107, me108, me109, me110, me111, me112, me113, me114, me115, me116, me117, me118]
def trR : MTree := (nd (nd (nd .leaf 37 0 [9] .leaf) 13087 0 [13059] .leaf) 28444 8 [] (nd (nd .leaf 33132 8 [] .leaf) 39474 118 [] .leaf))
def tpR : MTree := (nd .leaf 12505 7 [12498, 12496] .leaf)
noncomputable def bG (t tp : MTree) (b : Nat) : iw := fZ (Q4.get fS) (fO (iI cZ tp b)) (Q4.get od) (kV cZ t b) 1000000 (199 + 1)
theorem ag : ul := by
  intro g cs h
  by_cases e0 : g = 0
  · subst e0; rw [← Option.some.inj ((show ke 0 = some ((ke 0).getD []) by kernel_rfl).symm.trans h)]; kernel_rfl
  exfalso
  unfold ke at h
  rw [show Nat.beq g 0 = false from aog e0, cond_false] at h
  cases h
end Go.Proofs.YtopigipibioclaaGreatDoor.Ev
