/-
  The table of those calls.
-/
import Derived.Test.YtihcmbhankddkaaGreatMe0
import Derived.Test.YtihcmbhankddkaaGreatOk
namespace Go.Proofs.YtihcmbhankddkaaGreat.Ev
open Go
set_option maxRecDepth 1000000
set_option linter.all false
def mes : List ME := [me0, me1, me2, me3, me4, me5, me6, me7, me8, me9, me10, me11, me12, me13, me14, me15, me16, me17, me18, me19, me20, me21, me22, me23, me24, me25, me26, me27, me28, me29, me30, me31, me32, me33, me34, me35, me36]
def metree : MTree := (.node (.node (.node (.node (.node (.node .leaf 146 0 .leaf) 54666 1 .leaf) 120553 2 (.node .leaf 190018 3 .leaf)) 256372 4 (.node (.node (.node .leaf 327914 6 .leaf) 329136 5 .leaf) 479474 7 (.node .leaf 533994 8 .leaf))) 600357 9 (.node (.node (.node (.node .leaf 651696 14 .leaf) 651747 10 .leaf) 753596 12 (.node .leaf 791405 11 .leaf)) 879129 13 (.node (.node .leaf 945534 15 .leaf) 993357 16 (.node .leaf 1026264 17 .leaf)))) 1091890 18 (.node (.node (.node (.node (.node .leaf 1207905 35 .leaf) 1208218 19 .leaf) 1274123 20 (.node .leaf 1340251 21 .leaf)) 1406605 22 (.node (.node (.node .leaf 1473544 24 .leaf) 1474766 23 .leaf) 1619577 25 (.node .leaf 1668738 26 .leaf))) 1716847 27 (.node (.node (.node (.node .leaf 1768208 28 .leaf) 1835834 30 .leaf) 1861162 29 (.node .leaf 1941312 31 .leaf)) 1990325 32 (.node (.node .leaf 2039323 33 .leaf) 2088836 34 (.node .leaf 2139034 36 .leaf)))))
noncomputable def runM (b : Nat) : CalK := fcalM (Q4.get afntab) (Q4.get ffntab) (mtab mes metree b) 1000000 (199 + 1)
end Go.Proofs.YtihcmbhankddkaaGreat.Ev
