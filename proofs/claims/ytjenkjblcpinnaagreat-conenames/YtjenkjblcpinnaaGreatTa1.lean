/-
  The code of the law's functions, printed by program off the translation.
-/
import Derived.Test.YtjenkjblcpinnaaGreatEvSlots
namespace Go.Proofs.YtjenkjblcpinnaaGreat.Ev
open Go
set_option maxRecDepth 1000000
set_option linter.all false
noncomputable def ffn21 : FFn := ⟨2, 10, [(4, none)],
  cSeq (cReg 1 (
   oMv (kc .nilSl) s004)) <|
  cSeq (cReg 6 (
   oSeq (oMv g000 s005) <|
   oSeq (oMv g001 s006) <|
   oSeq (oBuildSlice 3 1 [(.int .i64 0), (.int .i64 0)] 2 [((0, 1), g005), ((1, 1), g006)] 2 s007) <|
   oSeq (oCallF 4 (fun T => [g007 T]) s010) <|
   oSeq (oBuildSlice 23 1 [.nilSl] 1 [((0, 1), g010)] 4 s011) <|
   oMv g011 s004)) <|
  cExit 0⟩
end Go.Proofs.YtjenkjblcpinnaaGreat.Ev
