/-
  No cell of these rows narrows 'for every input' (looked for: loops, veiled, ifaces, maps, wideKeys, modest, calm, conditions, laid).
  DERIVED. THE GIVEN ROWS OF THIS SEAT. 4 by the template 'for every input the law returns true; each argument reads behind the call as it read before'; 0 by the template 'total and deterministic' (their statements: YteaefaohjlmjdaaGreatTotals.lean).
  GIVEN WITH THE SEED: the statements are not yours to turn. If you find one false, say at which input.
  Laid BY PROGRAM, IN A SANDBOX (cutbox-rows.mjs): the forced cells as the released guide's own fill.sh prints them over the translation a61e21110db00950… (all of the seat's roots in one cut). By AI agents, Wed Nov 11 2026. No macro, syntax, notation, axiom, sorry.
-/
import Derived.Test.YteaefaohjlmjdaaGreatChecked
import GoSem.Claim
import GoSem.ClaimJoined
import GoSem.ClaimMapViews
import Derived.JoinedTies
import Derived.KernelRfl
namespace Go.Proofs.YteaefaohjlmjdaaGreat
/- THE CELL 'sum', in the pinned program and in every row, IS THE sha256 OF THE DUMP (.gsa) THAT YteaefaohjlmjdaaGreatProg.lean LOADS. Nothing in Lean hashes anything: it is a label: what it is worth is what the hold of that sum in a sandbox is worth. -/
noncomputable def Tryz.pinned : Pinned := { name := "yteaefaohjlmjdaagreat", sum := "a61e21110db00950b1bdf1472668687f47ef0a61e0e53724bfb1921ba0767c62", checked := Tryz.checked }
namespace Rows
def none {H : Type} : Left H := { results := [], args := [] }

/-- 'facetroomlaw22.PolyMeets': WHATEVER THE INPUT: true; the input reads as it did. -/
def polyMeetsSpec : ChangeSpec := { name := "polyMeets", fn := fun _ => fun
  | [d1, d2, d3, d4] => { results := [.lit (.bool true)], args := [d1, d2, d3, d4] }
  | _ => none }
def polyMeetsRow : OpenClaim := { program := "yteaefaohjlmjdaagreat", sum := "a61e21110db00950b1bdf1472668687f47ef0a61e0e53724bfb1921ba0767c62", func := "facetroom/facetroomlaw22.PolyMeets", spec := "polyMeets", inPlace := ["math/bits.Add64", "math/bits.Sub64", "slices.overlaps[facetroom/api.Vec]"], unfollowed := true, recurses := true, named := ["math/bits.divideError", "math/bits.overflowError"], apart := false }
def PolyMeetsSaid : Prop := polyMeetsRow.holds Tryz.pinned (OpenSpec.ofChange polyMeetsSpec)

/-- ITS FALSE NEIGHBOUR: 'it returns false'. Refute it at one input. -/
def polyMeetsWrong : ChangeSpec := { name := "polyMeets", fn := fun _ => fun
  | [d1, d2, d3, d4] => { results := [.lit (.bool false)], args := [d1, d2, d3, d4] }
  | _ => none }
def PolyMeetsWrongFalsely : Prop := polyMeetsRow.holds Tryz.pinned (OpenSpec.ofChange polyMeetsWrong)

/-- 'facetroomlaw23.ImageBack': WHATEVER THE INPUT: true; the input reads as it did. -/
def imageBackSpec : ChangeSpec := { name := "imageBack", fn := fun _ => fun
  | [d1, d2, d3, d4] => { results := [.lit (.bool true)], args := [d1, d2, d3, d4] }
  | _ => none }
def imageBackRow : OpenClaim := { program := "yteaefaohjlmjdaagreat", sum := "a61e21110db00950b1bdf1472668687f47ef0a61e0e53724bfb1921ba0767c62", func := "facetroom/facetroomlaw23.ImageBack", spec := "imageBack", inPlace := ["math/bits.Add64", "math/bits.Sub64", "slices.overlaps[facetroom/api.Vec]"], unfollowed := true, recurses := true, named := ["math/bits.divideError", "math/bits.overflowError"], apart := false }
def ImageBackSaid : Prop := imageBackRow.holds Tryz.pinned (OpenSpec.ofChange imageBackSpec)

/-- ITS FALSE NEIGHBOUR: 'it returns false'. Refute it at one input. -/
def imageBackWrong : ChangeSpec := { name := "imageBack", fn := fun _ => fun
  | [d1, d2, d3, d4] => { results := [.lit (.bool false)], args := [d1, d2, d3, d4] }
  | _ => none }
def ImageBackWrongFalsely : Prop := imageBackRow.holds Tryz.pinned (OpenSpec.ofChange imageBackWrong)

/-- 'facetroomlaw23.ImagePoints': WHATEVER THE INPUT: true; the input reads as it did. -/
def imagePointsSpec : ChangeSpec := { name := "imagePoints", fn := fun _ => fun
  | [d1, d2, d3, d4, d5, d6, d7] => { results := [.lit (.bool true)], args := [d1, d2, d3, d4, d5, d6, d7] }
  | _ => none }
def imagePointsRow : OpenClaim := { program := "yteaefaohjlmjdaagreat", sum := "a61e21110db00950b1bdf1472668687f47ef0a61e0e53724bfb1921ba0767c62", func := "facetroom/facetroomlaw23.ImagePoints", spec := "imagePoints", inPlace := ["math/bits.Add64", "math/bits.Sub64", "slices.overlaps[facetroom/api.Vec]"], unfollowed := true, recurses := true, named := ["math/bits.divideError", "math/bits.overflowError"], apart := false }
def ImagePointsSaid : Prop := imagePointsRow.holds Tryz.pinned (OpenSpec.ofChange imagePointsSpec)

/-- ITS FALSE NEIGHBOUR: 'it returns false'. Refute it at one input. -/
def imagePointsWrong : ChangeSpec := { name := "imagePoints", fn := fun _ => fun
  | [d1, d2, d3, d4, d5, d6, d7] => { results := [.lit (.bool false)], args := [d1, d2, d3, d4, d5, d6, d7] }
  | _ => none }
def ImagePointsWrongFalsely : Prop := imagePointsRow.holds Tryz.pinned (OpenSpec.ofChange imagePointsWrong)

/-- 'facetroomlaw23.ImageGrows': WHATEVER THE INPUT: true; the input reads as it did. -/
def imageGrowsSpec : ChangeSpec := { name := "imageGrows", fn := fun _ => fun
  | [d1, d2, d3, d4, d5, d6, d7] => { results := [.lit (.bool true)], args := [d1, d2, d3, d4, d5, d6, d7] }
  | _ => none }
def imageGrowsRow : OpenClaim := { program := "yteaefaohjlmjdaagreat", sum := "a61e21110db00950b1bdf1472668687f47ef0a61e0e53724bfb1921ba0767c62", func := "facetroom/facetroomlaw23.ImageGrows", spec := "imageGrows", inPlace := ["math/bits.Add64", "math/bits.Sub64", "slices.overlaps[facetroom/api.Vec]"], unfollowed := true, recurses := true, named := ["math/bits.divideError", "math/bits.overflowError"], apart := false }
def ImageGrowsSaid : Prop := imageGrowsRow.holds Tryz.pinned (OpenSpec.ofChange imageGrowsSpec)

/-- ITS FALSE NEIGHBOUR: 'it returns false'. Refute it at one input. -/
def imageGrowsWrong : ChangeSpec := { name := "imageGrows", fn := fun _ => fun
  | [d1, d2, d3, d4, d5, d6, d7] => { results := [.lit (.bool false)], args := [d1, d2, d3, d4, d5, d6, d7] }
  | _ => none }
def ImageGrowsWrongFalsely : Prop := imageGrowsRow.holds Tryz.pinned (OpenSpec.ofChange imageGrowsWrong)

/- THE SECOND FORM. 'bulk': how many values and letters a reading holds, each counted each time it is reached (what is shared counts as often as it is met; a slice's spare places count too). A statement '..UptoSaid' is the law's where the arguments, and the package variables that the reading takes, are together of bulk at most 1048576: NARROWER than '..Said'. Prove '..Said' where nothing that the law and all that it calls make is longer than what came in: it says more and counts as full. Else prove '..UptoSaid'. A law counts once. -/
mutual
def uptoBulk {H : Type} : DataW H → Nat
  | .lit (.string bytes) => bytes.length + 1
  | .lit _ => 1
  | .nil => 1
  | .ptr d => uptoBulk d + 1
  | .slice elems spare => uptoBulkAll elems + uptoBulkAll spare + 1
  | .agg parts => uptoBulkAll parts + 1
  | .iface _ d => uptoBulk d + 1
  | .map entries => uptoBulkEntries entries + 1
  | .held _ => 1
def uptoBulkAll {H : Type} : List (DataW H) → Nat
  | [] => 0
  | d :: r => uptoBulk d + uptoBulkAll r
def uptoBulkEntries {H : Type} : List (Lit × DataW H) → Nat
  | [] => 0
  | x :: r => uptoBulkEntry x + uptoBulkEntries r
def uptoBulkEntry {H : Type} : Lit × DataW H → Nat
  | (.string bytes, d) => bytes.length + uptoBulk d + 1
  | (_, d) => uptoBulk d + 1
 end
def uptoSmall : (H : Type) → List (DataW H) → Bool := fun _ ds => decide (uptoBulkAll ds ≤ 1048576)
def OpenSpec.upto (s : _root_.Go.ChangeSpec) : _root_.Go.OpenSpec := { _root_.Go.OpenSpec.ofChange s with cond := some uptoSmall }

/-- 'facetroomlaw22.PolyMeets', WHERE WHAT IT READS IS OF BULK AT MOST 1048576: true; the input reads as it did. -/
def polyMeetsUptoRow : OpenClaim := { program := "yteaefaohjlmjdaagreat", sum := "a61e21110db00950b1bdf1472668687f47ef0a61e0e53724bfb1921ba0767c62", func := "facetroom/facetroomlaw22.PolyMeets", spec := "polyMeets", inPlace := ["math/bits.Add64", "math/bits.Sub64", "slices.overlaps[facetroom/api.Vec]"], unfollowed := true, recurses := true, named := ["math/bits.divideError", "math/bits.overflowError"], apart := false, narrowed := true }
def PolyMeetsUptoSaid : Prop := polyMeetsUptoRow.holds Tryz.pinned (OpenSpec.upto polyMeetsSpec)

/-- 'facetroomlaw23.ImageBack', WHERE WHAT IT READS IS OF BULK AT MOST 1048576: true; the input reads as it did. -/
def imageBackUptoRow : OpenClaim := { program := "yteaefaohjlmjdaagreat", sum := "a61e21110db00950b1bdf1472668687f47ef0a61e0e53724bfb1921ba0767c62", func := "facetroom/facetroomlaw23.ImageBack", spec := "imageBack", inPlace := ["math/bits.Add64", "math/bits.Sub64", "slices.overlaps[facetroom/api.Vec]"], unfollowed := true, recurses := true, named := ["math/bits.divideError", "math/bits.overflowError"], apart := false, narrowed := true }
def ImageBackUptoSaid : Prop := imageBackUptoRow.holds Tryz.pinned (OpenSpec.upto imageBackSpec)

/-- 'facetroomlaw23.ImagePoints', WHERE WHAT IT READS IS OF BULK AT MOST 1048576: true; the input reads as it did. -/
def imagePointsUptoRow : OpenClaim := { program := "yteaefaohjlmjdaagreat", sum := "a61e21110db00950b1bdf1472668687f47ef0a61e0e53724bfb1921ba0767c62", func := "facetroom/facetroomlaw23.ImagePoints", spec := "imagePoints", inPlace := ["math/bits.Add64", "math/bits.Sub64", "slices.overlaps[facetroom/api.Vec]"], unfollowed := true, recurses := true, named := ["math/bits.divideError", "math/bits.overflowError"], apart := false, narrowed := true }
def ImagePointsUptoSaid : Prop := imagePointsUptoRow.holds Tryz.pinned (OpenSpec.upto imagePointsSpec)

/-- 'facetroomlaw23.ImageGrows', WHERE WHAT IT READS IS OF BULK AT MOST 1048576: true; the input reads as it did. -/
def imageGrowsUptoRow : OpenClaim := { program := "yteaefaohjlmjdaagreat", sum := "a61e21110db00950b1bdf1472668687f47ef0a61e0e53724bfb1921ba0767c62", func := "facetroom/facetroomlaw23.ImageGrows", spec := "imageGrows", inPlace := ["math/bits.Add64", "math/bits.Sub64", "slices.overlaps[facetroom/api.Vec]"], unfollowed := true, recurses := true, named := ["math/bits.divideError", "math/bits.overflowError"], apart := false, narrowed := true }
def ImageGrowsUptoSaid : Prop := imageGrowsUptoRow.holds Tryz.pinned (OpenSpec.upto imageGrowsSpec)

end Rows
end Go.Proofs.YteaefaohjlmjdaaGreat
