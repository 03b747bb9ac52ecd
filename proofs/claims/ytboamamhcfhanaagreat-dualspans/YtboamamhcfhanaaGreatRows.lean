/-
  No cell of these rows narrows 'for every input' (looked for: loops, veiled, ifaces, maps, wideKeys, modest, calm, conditions, laid).
  DERIVED. THE GIVEN ROWS OF THIS SEAT. 3 by the template 'for every input the law returns true; each argument reads behind the call as it read before'; 0 by the template 'total and deterministic' (their statements: YtboamamhcfhanaaGreatTotals.lean).
  GIVEN WITH THE SEED: the statements are not yours to turn. If you find one false, say at which input.
  Laid BY PROGRAM, IN A SANDBOX (cutbox-rows.mjs): the forced cells as the released guide's own fill.sh prints them over the translation bb3068f4e29a87aa… (all of the seat's roots in one cut). By AI agents, Wed Nov 11 2026. No macro, syntax, notation, axiom, sorry.
-/
import Derived.Test.YtboamamhcfhanaaGreatChecked
import GoSem.Claim
import GoSem.ClaimJoined
import GoSem.ClaimMapViews
import Derived.JoinedTies
import Derived.KernelRfl
namespace Go.Proofs.YtboamamhcfhanaaGreat
/- THE CELL 'sum', in the pinned program and in every row, IS THE sha256 OF THE DUMP (.gsa) THAT YtboamamhcfhanaaGreatProg.lean LOADS. Nothing in Lean hashes anything: it is a label: what it is worth is what the hold of that sum in a sandbox is worth. -/
noncomputable def Tryz.pinned : Pinned := { name := "ytboamamhcfhanaagreat", sum := "bb3068f4e29a87aa23c66b3c536b941cc328e79a087cf9d00026dd6fca94c584", checked := Tryz.checked }
namespace Rows
def none {H : Type} : Left H := { results := [], args := [] }

/-- 'facetroomlaw21.DualKeeps': WHATEVER THE INPUT: true; the input reads as it did. -/
def dualKeepsSpec : ChangeSpec := { name := "dualKeeps", fn := fun _ => fun
  | [d1, d2] => { results := [.lit (.bool true)], args := [d1, d2] }
  | _ => none }
def dualKeepsRow : OpenClaim := { program := "ytboamamhcfhanaagreat", sum := "bb3068f4e29a87aa23c66b3c536b941cc328e79a087cf9d00026dd6fca94c584", func := "facetroom/facetroomlaw21.DualKeeps", spec := "dualKeeps", inPlace := ["math/bits.Add64", "math/bits.Sub64", "slices.overlaps[facetroom/api.Vec]"], unfollowed := true, recurses := true, named := ["math/bits.divideError", "math/bits.overflowError"], apart := false }
def DualKeepsSaid : Prop := dualKeepsRow.holds Tryz.pinned (OpenSpec.ofChange dualKeepsSpec)

/-- ITS FALSE NEIGHBOUR: 'it returns false'. Refute it at one input. -/
def dualKeepsWrong : ChangeSpec := { name := "dualKeeps", fn := fun _ => fun
  | [d1, d2] => { results := [.lit (.bool false)], args := [d1, d2] }
  | _ => none }
def DualKeepsWrongFalsely : Prop := dualKeepsRow.holds Tryz.pinned (OpenSpec.ofChange dualKeepsWrong)

/-- 'facetroomlaw21.DualSpans': WHATEVER THE INPUT: true; the input reads as it did. -/
def dualSpansSpec : ChangeSpec := { name := "dualSpans", fn := fun _ => fun
  | [d1, d2, d3, d4] => { results := [.lit (.bool true)], args := [d1, d2, d3, d4] }
  | _ => none }
def dualSpansRow : OpenClaim := { program := "ytboamamhcfhanaagreat", sum := "bb3068f4e29a87aa23c66b3c536b941cc328e79a087cf9d00026dd6fca94c584", func := "facetroom/facetroomlaw21.DualSpans", spec := "dualSpans", inPlace := ["math/bits.Add64", "math/bits.Sub64", "slices.overlaps[facetroom/api.Vec]"], unfollowed := true, recurses := true, named := ["math/bits.divideError", "math/bits.overflowError"], apart := false }
def DualSpansSaid : Prop := dualSpansRow.holds Tryz.pinned (OpenSpec.ofChange dualSpansSpec)

/-- ITS FALSE NEIGHBOUR: 'it returns false'. Refute it at one input. -/
def dualSpansWrong : ChangeSpec := { name := "dualSpans", fn := fun _ => fun
  | [d1, d2, d3, d4] => { results := [.lit (.bool false)], args := [d1, d2, d3, d4] }
  | _ => none }
def DualSpansWrongFalsely : Prop := dualSpansRow.holds Tryz.pinned (OpenSpec.ofChange dualSpansWrong)

/-- 'facetroomlaw21.DualBack': WHATEVER THE INPUT: true; the input reads as it did. -/
def dualBackSpec : ChangeSpec := { name := "dualBack", fn := fun _ => fun
  | [d1, d2, d3] => { results := [.lit (.bool true)], args := [d1, d2, d3] }
  | _ => none }
def dualBackRow : OpenClaim := { program := "ytboamamhcfhanaagreat", sum := "bb3068f4e29a87aa23c66b3c536b941cc328e79a087cf9d00026dd6fca94c584", func := "facetroom/facetroomlaw21.DualBack", spec := "dualBack", inPlace := ["math/bits.Add64", "math/bits.Sub64", "slices.overlaps[facetroom/api.Vec]"], unfollowed := true, recurses := true, named := ["math/bits.divideError", "math/bits.overflowError"], apart := false }
def DualBackSaid : Prop := dualBackRow.holds Tryz.pinned (OpenSpec.ofChange dualBackSpec)

/-- ITS FALSE NEIGHBOUR: 'it returns false'. Refute it at one input. -/
def dualBackWrong : ChangeSpec := { name := "dualBack", fn := fun _ => fun
  | [d1, d2, d3] => { results := [.lit (.bool false)], args := [d1, d2, d3] }
  | _ => none }
def DualBackWrongFalsely : Prop := dualBackRow.holds Tryz.pinned (OpenSpec.ofChange dualBackWrong)

/- THE SECOND FORM. 'bulk': how many values and letters a reading holds, each counted each time it is reached (what is shared counts as often as it is met; a slice's spare places count too). A statement '..UptoSaid' is the law's where the arguments, and the package variables that the reading takes, are together of bulk at most 1048576: NARROWER than '..Said'. Prove '..Said' where nothing that the law and all that it calls make is longer than what came in: it says more and counts as full. Else prove '..UptoSaid'. A law counts once. -/
mutual
def uptoBulk {H : Type} : DataW H → Nat
  | .lit (.string bytes) => bytes.length + 1
  | .lit _ => 1
  | .nil => 1
  | .ptr d => uptoBulk d + 1
  | .slice elems spare => uptoBulkAll elems + uptoBulkAll spare + 1
  | .agg parts => uptoBulkAll parts + 1
  | .iface _ d => uptoBulk d + 1
  | .map entries => uptoBulkEntries entries + 1
  | .held _ => 1
def uptoBulkAll {H : Type} : List (DataW H) → Nat
  | [] => 0
  | d :: r => uptoBulk d + uptoBulkAll r
def uptoBulkEntries {H : Type} : List (Lit × DataW H) → Nat
  | [] => 0
  | x :: r => uptoBulkEntry x + uptoBulkEntries r
def uptoBulkEntry {H : Type} : Lit × DataW H → Nat
  | (.string bytes, d) => bytes.length + uptoBulk d + 1
  | (_, d) => uptoBulk d + 1
 end
def uptoSmall : (H : Type) → List (DataW H) → Bool := fun _ ds => decide (uptoBulkAll ds ≤ 1048576)
def OpenSpec.upto (s : _root_.Go.ChangeSpec) : _root_.Go.OpenSpec := { _root_.Go.OpenSpec.ofChange s with cond := some uptoSmall }

/-- 'facetroomlaw21.DualKeeps', WHERE WHAT IT READS IS OF BULK AT MOST 1048576: true; the input reads as it did. -/
def dualKeepsUptoRow : OpenClaim := { program := "ytboamamhcfhanaagreat", sum := "bb3068f4e29a87aa23c66b3c536b941cc328e79a087cf9d00026dd6fca94c584", func := "facetroom/facetroomlaw21.DualKeeps", spec := "dualKeeps", inPlace := ["math/bits.Add64", "math/bits.Sub64", "slices.overlaps[facetroom/api.Vec]"], unfollowed := true, recurses := true, named := ["math/bits.divideError", "math/bits.overflowError"], apart := false, narrowed := true }
def DualKeepsUptoSaid : Prop := dualKeepsUptoRow.holds Tryz.pinned (OpenSpec.upto dualKeepsSpec)

/-- 'facetroomlaw21.DualSpans', WHERE WHAT IT READS IS OF BULK AT MOST 1048576: true; the input reads as it did. -/
def dualSpansUptoRow : OpenClaim := { program := "ytboamamhcfhanaagreat", sum := "bb3068f4e29a87aa23c66b3c536b941cc328e79a087cf9d00026dd6fca94c584", func := "facetroom/facetroomlaw21.DualSpans", spec := "dualSpans", inPlace := ["math/bits.Add64", "math/bits.Sub64", "slices.overlaps[facetroom/api.Vec]"], unfollowed := true, recurses := true, named := ["math/bits.divideError", "math/bits.overflowError"], apart := false, narrowed := true }
def DualSpansUptoSaid : Prop := dualSpansUptoRow.holds Tryz.pinned (OpenSpec.upto dualSpansSpec)

/-- 'facetroomlaw21.DualBack', WHERE WHAT IT READS IS OF BULK AT MOST 1048576: true; the input reads as it did. -/
def dualBackUptoRow : OpenClaim := { program := "ytboamamhcfhanaagreat", sum := "bb3068f4e29a87aa23c66b3c536b941cc328e79a087cf9d00026dd6fca94c584", func := "facetroom/facetroomlaw21.DualBack", spec := "dualBack", inPlace := ["math/bits.Add64", "math/bits.Sub64", "slices.overlaps[facetroom/api.Vec]"], unfollowed := true, recurses := true, named := ["math/bits.divideError", "math/bits.overflowError"], apart := false, narrowed := true }
def DualBackUptoSaid : Prop := dualBackUptoRow.holds Tryz.pinned (OpenSpec.upto dualBackSpec)

end Rows
end Go.Proofs.YtboamamhcfhanaaGreat
