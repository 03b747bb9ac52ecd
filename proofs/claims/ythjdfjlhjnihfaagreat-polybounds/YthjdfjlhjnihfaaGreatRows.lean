/-
  No cell of these rows narrows 'for every input' (looked for: loops, veiled, ifaces, maps, wideKeys, modest, calm, conditions, laid).
  DERIVED. THE GIVEN ROWS OF THIS SEAT. 3 by the template 'for every input the law returns true; each argument reads behind the call as it read before'; 0 by the template 'total and deterministic' (their statements: YthjdfjlhjnihfaaGreatTotals.lean).
  GIVEN WITH THE SEED: the statements are not yours to turn. If you find one false, say at which input.
  Laid BY PROGRAM, IN A SANDBOX (cutbox-rows.mjs): the forced cells as the released guide's own fill.sh prints them over the translation 4585e10e7cc23f25… (all of the seat's roots in one cut). By AI agents, Wed Nov 11 2026. No macro, syntax, notation, axiom, sorry.
-/
import Derived.Test.YthjdfjlhjnihfaaGreatChecked
import GoSem.Claim
import GoSem.ClaimJoined
import GoSem.ClaimMapViews
import Derived.JoinedTies
import Derived.KernelRfl
namespace Go.Proofs.YthjdfjlhjnihfaaGreat
/- THE CELL 'sum', in the pinned program and in every row, IS THE sha256 OF THE DUMP (.gsa) THAT YthjdfjlhjnihfaaGreatProg.lean LOADS. Nothing in Lean hashes anything: it is a label: what it is worth is what the hold of that sum in a sandbox is worth. -/
noncomputable def Tryz.pinned : Pinned := { name := "ythjdfjlhjnihfaagreat", sum := "4585e10e7cc23f25ff93018ffa23f3b0a5e5b89fe653a2fd22da7e58782801c3", checked := Tryz.checked }
namespace Rows
def none {H : Type} : Left H := { results := [], args := [] }

/-- 'facetroomlaw22.PolyMeets': WHATEVER THE INPUT: true; the input reads as it did. -/
def polyMeetsSpec : ChangeSpec := { name := "polyMeets", fn := fun _ => fun
  | [d1, d2, d3, d4] => { results := [.lit (.bool true)], args := [d1, d2, d3, d4] }
  | _ => none }
def polyMeetsRow : OpenClaim := { program := "ythjdfjlhjnihfaagreat", sum := "4585e10e7cc23f25ff93018ffa23f3b0a5e5b89fe653a2fd22da7e58782801c3", func := "facetroom/facetroomlaw22.PolyMeets", spec := "polyMeets", inPlace := ["math/bits.Add64", "math/bits.Sub64", "slices.overlaps[facetroom/api.Vec]"], unfollowed := true, recurses := true, named := ["math/bits.divideError", "math/bits.overflowError"], apart := false }
def PolyMeetsSaid : Prop := polyMeetsRow.holds Tryz.pinned (OpenSpec.ofChange polyMeetsSpec)

/-- ITS FALSE NEIGHBOUR: 'it returns false'. Refute it at one input. -/
def polyMeetsWrong : ChangeSpec := { name := "polyMeets", fn := fun _ => fun
  | [d1, d2, d3, d4] => { results := [.lit (.bool false)], args := [d1, d2, d3, d4] }
  | _ => none }
def PolyMeetsWrongFalsely : Prop := polyMeetsRow.holds Tryz.pinned (OpenSpec.ofChange polyMeetsWrong)

/-- 'facetroomlaw22.PolyEases': WHATEVER THE INPUT: true; the input reads as it did. -/
def polyEasesSpec : ChangeSpec := { name := "polyEases", fn := fun _ => fun
  | [d1, d2] => { results := [.lit (.bool true)], args := [d1, d2] }
  | _ => none }
def polyEasesRow : OpenClaim := { program := "ythjdfjlhjnihfaagreat", sum := "4585e10e7cc23f25ff93018ffa23f3b0a5e5b89fe653a2fd22da7e58782801c3", func := "facetroom/facetroomlaw22.PolyEases", spec := "polyEases", inPlace := ["math/bits.Add64", "math/bits.Sub64", "slices.overlaps[facetroom/api.Vec]"], unfollowed := true, recurses := true, named := ["math/bits.divideError", "math/bits.overflowError"], apart := false }
def PolyEasesSaid : Prop := polyEasesRow.holds Tryz.pinned (OpenSpec.ofChange polyEasesSpec)

/-- ITS FALSE NEIGHBOUR: 'it returns false'. Refute it at one input. -/
def polyEasesWrong : ChangeSpec := { name := "polyEases", fn := fun _ => fun
  | [d1, d2] => { results := [.lit (.bool false)], args := [d1, d2] }
  | _ => none }
def PolyEasesWrongFalsely : Prop := polyEasesRow.holds Tryz.pinned (OpenSpec.ofChange polyEasesWrong)

/-- 'facetroomlaw22.PolyBounds': WHATEVER THE INPUT: true; the input reads as it did. -/
def polyBoundsSpec : ChangeSpec := { name := "polyBounds", fn := fun _ => fun
  | [d1, d2, d3, d4] => { results := [.lit (.bool true)], args := [d1, d2, d3, d4] }
  | _ => none }
def polyBoundsRow : OpenClaim := { program := "ythjdfjlhjnihfaagreat", sum := "4585e10e7cc23f25ff93018ffa23f3b0a5e5b89fe653a2fd22da7e58782801c3", func := "facetroom/facetroomlaw22.PolyBounds", spec := "polyBounds", inPlace := ["math/bits.Add64", "math/bits.Sub64", "slices.overlaps[facetroom/api.Vec]"], unfollowed := true, recurses := true, named := ["math/bits.divideError", "math/bits.overflowError"], apart := false }
def PolyBoundsSaid : Prop := polyBoundsRow.holds Tryz.pinned (OpenSpec.ofChange polyBoundsSpec)

/-- ITS FALSE NEIGHBOUR: 'it returns false'. Refute it at one input. -/
def polyBoundsWrong : ChangeSpec := { name := "polyBounds", fn := fun _ => fun
  | [d1, d2, d3, d4] => { results := [.lit (.bool false)], args := [d1, d2, d3, d4] }
  | _ => none }
def PolyBoundsWrongFalsely : Prop := polyBoundsRow.holds Tryz.pinned (OpenSpec.ofChange polyBoundsWrong)

/- THE SECOND FORM. 'bulk': how many values and letters a reading holds, each counted each time it is reached (what is shared counts as often as it is met; a slice's spare places count too). A statement '..UptoSaid' is the law's where the arguments, and the package variables that the reading takes, are together of bulk at most 1048576: NARROWER than '..Said'. Prove '..Said' where nothing that the law and all that it calls make is longer than what came in: it says more and counts as full. Else prove '..UptoSaid'. A law counts once. -/
mutual
def uptoBulk {H : Type} : DataW H → Nat
  | .lit (.string bytes) => bytes.length + 1
  | .lit _ => 1
  | .nil => 1
  | .ptr d => uptoBulk d + 1
  | .slice elems spare => uptoBulkAll elems + uptoBulkAll spare + 1
  | .agg parts => uptoBulkAll parts + 1
  | .iface _ d => uptoBulk d + 1
  | .map entries => uptoBulkEntries entries + 1
  | .held _ => 1
def uptoBulkAll {H : Type} : List (DataW H) → Nat
  | [] => 0
  | d :: r => uptoBulk d + uptoBulkAll r
def uptoBulkEntries {H : Type} : List (Lit × DataW H) → Nat
  | [] => 0
  | x :: r => uptoBulkEntry x + uptoBulkEntries r
def uptoBulkEntry {H : Type} : Lit × DataW H → Nat
  | (.string bytes, d) => bytes.length + uptoBulk d + 1
  | (_, d) => uptoBulk d + 1
 end
def uptoSmall : (H : Type) → List (DataW H) → Bool := fun _ ds => decide (uptoBulkAll ds ≤ 1048576)
def OpenSpec.upto (s : _root_.Go.ChangeSpec) : _root_.Go.OpenSpec := { _root_.Go.OpenSpec.ofChange s with cond := some uptoSmall }

/-- 'facetroomlaw22.PolyMeets', WHERE WHAT IT READS IS OF BULK AT MOST 1048576: true; the input reads as it did. -/
def polyMeetsUptoRow : OpenClaim := { program := "ythjdfjlhjnihfaagreat", sum := "4585e10e7cc23f25ff93018ffa23f3b0a5e5b89fe653a2fd22da7e58782801c3", func := "facetroom/facetroomlaw22.PolyMeets", spec := "polyMeets", inPlace := ["math/bits.Add64", "math/bits.Sub64", "slices.overlaps[facetroom/api.Vec]"], unfollowed := true, recurses := true, named := ["math/bits.divideError", "math/bits.overflowError"], apart := false, narrowed := true }
def PolyMeetsUptoSaid : Prop := polyMeetsUptoRow.holds Tryz.pinned (OpenSpec.upto polyMeetsSpec)

/-- 'facetroomlaw22.PolyEases', WHERE WHAT IT READS IS OF BULK AT MOST 1048576: true; the input reads as it did. -/
def polyEasesUptoRow : OpenClaim := { program := "ythjdfjlhjnihfaagreat", sum := "4585e10e7cc23f25ff93018ffa23f3b0a5e5b89fe653a2fd22da7e58782801c3", func := "facetroom/facetroomlaw22.PolyEases", spec := "polyEases", inPlace := ["math/bits.Add64", "math/bits.Sub64", "slices.overlaps[facetroom/api.Vec]"], unfollowed := true, recurses := true, named := ["math/bits.divideError", "math/bits.overflowError"], apart := false, narrowed := true }
def PolyEasesUptoSaid : Prop := polyEasesUptoRow.holds Tryz.pinned (OpenSpec.upto polyEasesSpec)

/-- 'facetroomlaw22.PolyBounds', WHERE WHAT IT READS IS OF BULK AT MOST 1048576: true; the input reads as it did. -/
def polyBoundsUptoRow : OpenClaim := { program := "ythjdfjlhjnihfaagreat", sum := "4585e10e7cc23f25ff93018ffa23f3b0a5e5b89fe653a2fd22da7e58782801c3", func := "facetroom/facetroomlaw22.PolyBounds", spec := "polyBounds", inPlace := ["math/bits.Add64", "math/bits.Sub64", "slices.overlaps[facetroom/api.Vec]"], unfollowed := true, recurses := true, named := ["math/bits.divideError", "math/bits.overflowError"], apart := false, narrowed := true }
def PolyBoundsUptoSaid : Prop := polyBoundsUptoRow.holds Tryz.pinned (OpenSpec.upto polyBoundsSpec)

end Rows
end Go.Proofs.YthjdfjlhjnihfaaGreat
