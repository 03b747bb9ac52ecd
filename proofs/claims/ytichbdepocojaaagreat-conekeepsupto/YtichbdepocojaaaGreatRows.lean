/-
  No cell of these rows narrows 'for every input' (looked for: loops, veiled, ifaces, maps, wideKeys, modest, calm, conditions, laid).
  DERIVED. THE GIVEN ROWS OF THIS SEAT. 4 by the template 'for every input the law returns true; each argument reads behind the call as it read before'; 0 by the template 'total and deterministic' (their statements: YtichbdepocojaaaGreatTotals.lean).
  GIVEN WITH THE SEED: the statements are not yours to turn. If you find one false, say at which input.
  Laid BY PROGRAM, IN A SANDBOX (cutbox-rows.mjs): the forced cells as the released guide's own fill.sh prints them over the translation a39ce326d9b999b3… (all of the seat's roots in one cut). By AI agents, Wed Nov 11 2026. No macro, syntax, notation, axiom, sorry.
-/
import Derived.Test.YtichbdepocojaaaGreatChecked
import GoSem.Claim
import GoSem.ClaimJoined
import GoSem.ClaimMapViews
import Derived.JoinedTies
import Derived.KernelRfl
namespace Go.Proofs.YtichbdepocojaaaGreat
/- THE CELL 'sum', in the pinned program and in every row, IS THE sha256 OF THE DUMP (.gsa) THAT YtichbdepocojaaaGreatProg.lean LOADS. Nothing in Lean hashes anything: it is a label: what it is worth is what the hold of that sum in a sandbox is worth. -/
noncomputable def Tryz.pinned : Pinned := { name := "ytichbdepocojaaagreat", sum := "a39ce326d9b999b31d0be520a168fb1e8e0829fd9aea23b18969002b2b864893", checked := Tryz.checked }
namespace Rows
def none {H : Type} : Left H := { results := [], args := [] }

/-- 'facetroomlaw20.ConeDual': WHATEVER THE INPUT: true; the input reads as it did. -/
def coneDualSpec : ChangeSpec := { name := "coneDual", fn := fun _ => fun
  | [d1, d2, d3] => { results := [.lit (.bool true)], args := [d1, d2, d3] }
  | _ => none }
def coneDualRow : OpenClaim := { program := "ytichbdepocojaaagreat", sum := "a39ce326d9b999b31d0be520a168fb1e8e0829fd9aea23b18969002b2b864893", func := "facetroom/facetroomlaw20.ConeDual", spec := "coneDual", inPlace := ["math/bits.Add64", "math/bits.Sub64", "slices.overlaps[facetroom/api.Vec]"], unfollowed := true, recurses := true, named := ["math/bits.divideError", "math/bits.overflowError"], apart := false }
def ConeDualSaid : Prop := coneDualRow.holds Tryz.pinned (OpenSpec.ofChange coneDualSpec)

/-- ITS FALSE NEIGHBOUR: 'it returns false'. Refute it at one input. -/
def coneDualWrong : ChangeSpec := { name := "coneDual", fn := fun _ => fun
  | [d1, d2, d3] => { results := [.lit (.bool false)], args := [d1, d2, d3] }
  | _ => none }
def ConeDualWrongFalsely : Prop := coneDualRow.holds Tryz.pinned (OpenSpec.ofChange coneDualWrong)

/-- 'facetroomlaw20.ConeOrder': WHATEVER THE INPUT: true; the input reads as it did. -/
def coneOrderSpec : ChangeSpec := { name := "coneOrder", fn := fun _ => fun
  | [d1, d2, d3, d4, d5] => { results := [.lit (.bool true)], args := [d1, d2, d3, d4, d5] }
  | _ => none }
def coneOrderRow : OpenClaim := { program := "ytichbdepocojaaagreat", sum := "a39ce326d9b999b31d0be520a168fb1e8e0829fd9aea23b18969002b2b864893", func := "facetroom/facetroomlaw20.ConeOrder", spec := "coneOrder", inPlace := ["math/bits.Add64", "math/bits.Sub64", "slices.overlaps[facetroom/api.Vec]"], unfollowed := true, recurses := true, named := ["math/bits.divideError", "math/bits.overflowError"], apart := false }
def ConeOrderSaid : Prop := coneOrderRow.holds Tryz.pinned (OpenSpec.ofChange coneOrderSpec)

/-- ITS FALSE NEIGHBOUR: 'it returns false'. Refute it at one input. -/
def coneOrderWrong : ChangeSpec := { name := "coneOrder", fn := fun _ => fun
  | [d1, d2, d3, d4, d5] => { results := [.lit (.bool false)], args := [d1, d2, d3, d4, d5] }
  | _ => none }
def ConeOrderWrongFalsely : Prop := coneOrderRow.holds Tryz.pinned (OpenSpec.ofChange coneOrderWrong)

/-- 'facetroomlaw20.ConeKeeps': WHATEVER THE INPUT: true; the input reads as it did. -/
def coneKeepsSpec : ChangeSpec := { name := "coneKeeps", fn := fun _ => fun
  | [d1, d2, d3, d4, d5, d6] => { results := [.lit (.bool true)], args := [d1, d2, d3, d4, d5, d6] }
  | _ => none }
def coneKeepsRow : OpenClaim := { program := "ytichbdepocojaaagreat", sum := "a39ce326d9b999b31d0be520a168fb1e8e0829fd9aea23b18969002b2b864893", func := "facetroom/facetroomlaw20.ConeKeeps", spec := "coneKeeps", inPlace := ["math/bits.Add64", "math/bits.Sub64", "slices.overlaps[facetroom/api.Vec]"], unfollowed := true, recurses := true, named := ["math/bits.divideError", "math/bits.overflowError"], apart := false }
def ConeKeepsSaid : Prop := coneKeepsRow.holds Tryz.pinned (OpenSpec.ofChange coneKeepsSpec)

/-- ITS FALSE NEIGHBOUR: 'it returns false'. Refute it at one input. -/
def coneKeepsWrong : ChangeSpec := { name := "coneKeeps", fn := fun _ => fun
  | [d1, d2, d3, d4, d5, d6] => { results := [.lit (.bool false)], args := [d1, d2, d3, d4, d5, d6] }
  | _ => none }
def ConeKeepsWrongFalsely : Prop := coneKeepsRow.holds Tryz.pinned (OpenSpec.ofChange coneKeepsWrong)

/-- 'facetroomlaw20.ConeFew': WHATEVER THE INPUT: true; the input reads as it did. -/
def coneFewSpec : ChangeSpec := { name := "coneFew", fn := fun _ => fun
  | [d1, d2, d3] => { results := [.lit (.bool true)], args := [d1, d2, d3] }
  | _ => none }
def coneFewRow : OpenClaim := { program := "ytichbdepocojaaagreat", sum := "a39ce326d9b999b31d0be520a168fb1e8e0829fd9aea23b18969002b2b864893", func := "facetroom/facetroomlaw20.ConeFew", spec := "coneFew", inPlace := ["math/bits.Add64", "math/bits.Sub64", "slices.overlaps[facetroom/api.Vec]"], unfollowed := true, recurses := true, named := ["math/bits.divideError", "math/bits.overflowError"], apart := false }
def ConeFewSaid : Prop := coneFewRow.holds Tryz.pinned (OpenSpec.ofChange coneFewSpec)

/-- ITS FALSE NEIGHBOUR: 'it returns false'. Refute it at one input. -/
def coneFewWrong : ChangeSpec := { name := "coneFew", fn := fun _ => fun
  | [d1, d2, d3] => { results := [.lit (.bool false)], args := [d1, d2, d3] }
  | _ => none }
def ConeFewWrongFalsely : Prop := coneFewRow.holds Tryz.pinned (OpenSpec.ofChange coneFewWrong)

/- THE SECOND FORM. 'bulk': how many values and letters a reading holds, each counted each time it is reached (what is shared counts as often as it is met; a slice's spare places count too). A statement '..UptoSaid' is the law's where the arguments, and the package variables that the reading takes, are together of bulk at most 1048576: NARROWER than '..Said'. Prove '..Said' where nothing that the law and all that it calls make is longer than what came in: it says more and counts as full. Else prove '..UptoSaid'. A law counts once. -/
mutual
def uptoBulk {H : Type} : DataW H → Nat
  | .lit (.string bytes) => bytes.length + 1
  | .lit _ => 1
  | .nil => 1
  | .ptr d => uptoBulk d + 1
  | .slice elems spare => uptoBulkAll elems + uptoBulkAll spare + 1
  | .agg parts => uptoBulkAll parts + 1
  | .iface _ d => uptoBulk d + 1
  | .map entries => uptoBulkEntries entries + 1
  | .held _ => 1
def uptoBulkAll {H : Type} : List (DataW H) → Nat
  | [] => 0
  | d :: r => uptoBulk d + uptoBulkAll r
def uptoBulkEntries {H : Type} : List (Lit × DataW H) → Nat
  | [] => 0
  | x :: r => uptoBulkEntry x + uptoBulkEntries r
def uptoBulkEntry {H : Type} : Lit × DataW H → Nat
  | (.string bytes, d) => bytes.length + uptoBulk d + 1
  | (_, d) => uptoBulk d + 1
 end
def uptoSmall : (H : Type) → List (DataW H) → Bool := fun _ ds => decide (uptoBulkAll ds ≤ 1048576)
def OpenSpec.upto (s : _root_.Go.ChangeSpec) : _root_.Go.OpenSpec := { _root_.Go.OpenSpec.ofChange s with cond := some uptoSmall }

/-- 'facetroomlaw20.ConeDual', WHERE WHAT IT READS IS OF BULK AT MOST 1048576: true; the input reads as it did. -/
def coneDualUptoRow : OpenClaim := { program := "ytichbdepocojaaagreat", sum := "a39ce326d9b999b31d0be520a168fb1e8e0829fd9aea23b18969002b2b864893", func := "facetroom/facetroomlaw20.ConeDual", spec := "coneDual", inPlace := ["math/bits.Add64", "math/bits.Sub64", "slices.overlaps[facetroom/api.Vec]"], unfollowed := true, recurses := true, named := ["math/bits.divideError", "math/bits.overflowError"], apart := false, narrowed := true }
def ConeDualUptoSaid : Prop := coneDualUptoRow.holds Tryz.pinned (OpenSpec.upto coneDualSpec)

/-- 'facetroomlaw20.ConeOrder', WHERE WHAT IT READS IS OF BULK AT MOST 1048576: true; the input reads as it did. -/
def coneOrderUptoRow : OpenClaim := { program := "ytichbdepocojaaagreat", sum := "a39ce326d9b999b31d0be520a168fb1e8e0829fd9aea23b18969002b2b864893", func := "facetroom/facetroomlaw20.ConeOrder", spec := "coneOrder", inPlace := ["math/bits.Add64", "math/bits.Sub64", "slices.overlaps[facetroom/api.Vec]"], unfollowed := true, recurses := true, named := ["math/bits.divideError", "math/bits.overflowError"], apart := false, narrowed := true }
def ConeOrderUptoSaid : Prop := coneOrderUptoRow.holds Tryz.pinned (OpenSpec.upto coneOrderSpec)

/-- 'facetroomlaw20.ConeKeeps', WHERE WHAT IT READS IS OF BULK AT MOST 1048576: true; the input reads as it did. -/
def coneKeepsUptoRow : OpenClaim := { program := "ytichbdepocojaaagreat", sum := "a39ce326d9b999b31d0be520a168fb1e8e0829fd9aea23b18969002b2b864893", func := "facetroom/facetroomlaw20.ConeKeeps", spec := "coneKeeps", inPlace := ["math/bits.Add64", "math/bits.Sub64", "slices.overlaps[facetroom/api.Vec]"], unfollowed := true, recurses := true, named := ["math/bits.divideError", "math/bits.overflowError"], apart := false, narrowed := true }
def ConeKeepsUptoSaid : Prop := coneKeepsUptoRow.holds Tryz.pinned (OpenSpec.upto coneKeepsSpec)

/-- 'facetroomlaw20.ConeFew', WHERE WHAT IT READS IS OF BULK AT MOST 1048576: true; the input reads as it did. -/
def coneFewUptoRow : OpenClaim := { program := "ytichbdepocojaaagreat", sum := "a39ce326d9b999b31d0be520a168fb1e8e0829fd9aea23b18969002b2b864893", func := "facetroom/facetroomlaw20.ConeFew", spec := "coneFew", inPlace := ["math/bits.Add64", "math/bits.Sub64", "slices.overlaps[facetroom/api.Vec]"], unfollowed := true, recurses := true, named := ["math/bits.divideError", "math/bits.overflowError"], apart := false, narrowed := true }
def ConeFewUptoSaid : Prop := coneFewUptoRow.holds Tryz.pinned (OpenSpec.upto coneFewSpec)

end Rows
end Go.Proofs.YtichbdepocojaaaGreat
