/-
  The table of those calls.
-/
import Derived.Test.YtjenkjblcpinnaaGreatMe0
import Derived.Test.YtjenkjblcpinnaaGreatOk
namespace Go.Proofs.YtjenkjblcpinnaaGreat.Ev
open Go
set_option maxRecDepth 1000000
set_option linter.all false
def mes : List ME := [me0]
def metree : MTree := (.node .leaf 55866 0 .leaf)
noncomputable def runM (b : Nat) : CalK := fcalM (Q4.get afntab) (Q4.get ffntab) (mtab mes metree b) 1000000 (199 + 1)
end Go.Proofs.YtjenkjblcpinnaaGreat.Ev
