/-
  Calls of the law's run, each with what it reads and what it leaves.
-/
import Derived.Test.YtjenkjblcpinnaaGreatEvMemo
namespace Go.Proofs.YtjenkjblcpinnaaGreat.Ev
open Go
set_option maxRecDepth 1000000
set_option linter.all false
def me0 : ME := ⟨55866, 114332, 7, [],
 [],
 [],
 [],
 (.bool true)⟩
end Go.Proofs.YtjenkjblcpinnaaGreat.Ev
