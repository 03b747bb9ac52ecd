/-
  The code of the law's functions, printed by program off the translation.
-/
import Derived.Test.YtjenkjblcpinnabGreatEvSlots
namespace Go.Proofs.YtjenkjblcpinnabGreat.Ev
open Go
set_option maxRecDepth 1000000
def afn22 : AFn := ⟨1, 6, [(2, (some (some 2)))],
  .seq (.region [
   ⟨(some 2), .alloc 36 [.nilSl, (.bool false)], none⟩]) <|
  .seq (.region [
   ⟨(some 3), .mv (.t 0), none⟩,
   ⟨(some 4), .call (.c (.fn (.func 15) [] [])) [(.t 3)], none⟩,
   ⟨(some 5), .build [.nilSl, (.bool false)] [((0, 1), (.t 4)), ((1, 1), (.c (.bool true)))], none⟩,
   ⟨none, .store 2 (.t 2) (.t 5), none⟩]) <|
  .ret, none⟩
noncomputable def ffn22 : FFn := ⟨1, 6, [(2, (some (some 2)))],
  cSeq (cReg 1 (
   oAlloc 36 [.nilSl, (.bool false)] 0 s002)) <|
  cSeq (cReg 4 (
   oSeq (oMv g000 s003) <|
   oSeq (oCallF 15 (fun T => [g003 T]) s004) <|
   oSeq (oP (vBuild [.nilSl, (.bool false)] [((0, 1), g004), ((1, 1), (kc (.bool true)))]) s005) <|
   oStoreN 2 g002 g005 noPut)) <|
  cExit 0⟩
end Go.Proofs.YtjenkjblcpinnabGreat.Ev
