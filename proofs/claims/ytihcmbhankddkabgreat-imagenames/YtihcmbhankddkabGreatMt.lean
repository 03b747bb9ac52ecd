/-
  The table of those calls.
-/
import Derived.Test.YtihcmbhankddkabGreatMe0
import Derived.Test.YtihcmbhankddkabGreatOk
namespace Go.Proofs.YtihcmbhankddkabGreat.Ev
open Go
set_option maxRecDepth 1000000
set_option linter.all false
def mes : List ME := [me0, me1, me2, me3, me4, me5, me6, me7, me8, me9, me10, me11, me12, me13, me14, me15, me16, me17, me18, me19, me20]
def metree : MTree := (.node (.node (.node (.node (.node .leaf 290 0 .leaf) 70378 1 .leaf) 154276 2 (.node (.node .leaf 230565 4 .leaf) 231416 3 .leaf)) 326999 5 (.node (.node (.node .leaf 397798 6 .leaf) 452023 7 .leaf) 528484 8 (.node .leaf 594122 9 .leaf))) 665138 10 (.node (.node (.node (.node .leaf 736788 11 .leaf) 807098 12 .leaf) 883740 14 (.node (.node .leaf 911016 13 .leaf) 981401 15 .leaf)) 1063466 17 (.node (.node (.node .leaf 1064688 16 .leaf) 1203465 18 .leaf) 1274937 19 (.node .leaf 1347338 20 .leaf))))
noncomputable def runM (b : Nat) : CalK := fcalM (Q4.get afntab) (Q4.get ffntab) (mtab mes metree b) 1000000 (199 + 1)
end Go.Proofs.YtihcmbhankddkabGreat.Ev
