/-
  The table of those calls.
-/
import Derived.Test.YtihcmbhankddkacGreatMe0
import Derived.Test.YtihcmbhankddkacGreatOk
namespace Go.Proofs.YtihcmbhankddkacGreat.Ev
open Go
set_option maxRecDepth 1000000
set_option linter.all false
def mes : List ME := [me0, me1, me2, me3, me4, me5, me6, me7, me8, me9, me10, me11, me12, me13, me14, me15, me16, me17, me18, me19, me20, me21, me22, me23, me24]
def metree : MTree := (.node (.node (.node (.node (.node .leaf 298 0 .leaf) 70248 1 (.node .leaf 120147 2 .leaf)) 198565 3 (.node (.node .leaf 254277 5 .leaf) 254315 4 .leaf)) 357494 7 (.node (.node (.node .leaf 389934 6 .leaf) 462603 9 .leaf) 462627 8 (.node (.node .leaf 555332 24 .leaf) 555630 10 .leaf))) 625746 11 (.node (.node (.node (.node .leaf 697184 12 .leaf) 789964 13 (.node .leaf 841817 17 .leaf)) 841855 14 (.node (.node .leaf 948112 16 .leaf) 949049 15 .leaf)) 1064184 18 (.node (.node (.node .leaf 1134679 19 .leaf) 1205402 20 .leaf) 1277663 21 (.node (.node .leaf 1350439 22 .leaf) 1421919 23 .leaf))))
noncomputable def runM (b : Nat) : CalK := fcalM (Q4.get afntab) (Q4.get ffntab) (mtab mes metree b) 1000000 (199 + 1)
end Go.Proofs.YtihcmbhankddkacGreat.Ev
