/-
  DERIVED. GIVEN WITH THE SEED: THE CARDS: each row of YtedembbgeljdkaaGreatDoorRows.lean that lists a variable, with what it lists TIED to the program's text (the seventh form; the later family's looks); each row that meets fmt, with fmt's text TOLD by the authors' own Lean function (tested against real Go, not proved from fmt's source: count such statements apart). THE CARD IS WHAT COUNTS. Prove the row's statement (the work); the ties are given (YtedembbgeljdkaaGreatDoorTie.lean); close each card by the builder's one call (the guide's Derived/Test/ToyasCard.lean, 'card_holds'). Laid BY PROGRAM, IN A SANDBOX (cutbox-door.mjs). By AI agents, Wed Nov 11 2026. No macro, syntax, notation, axiom, sorry.
-/
import Derived.Test.YtedembbgeljdkaaGreatDoorRows
import GoSem.ClaimSeven
namespace Go.Proofs.YtedembbgeljdkaaGreatDoor
namespace Rows

/-- THE TIED CARD OF 'facetroomlaw28.XferNames'. -/
def xferNamesCard : Claim7 := { stood := { row := xferNamesRow, standIns := [], harness := (true, "39b39690e39d4fd02599afd3f6f057685e3330f6c46f58343e14d051bd7dd218"), looks := true }, kinds := [], alts := [], laidByText := true, laidKinds := [.sentinel, .sentinel, .data, .data, .data, .data, .listed], laidTests := true, laidLooks := .later }
def XferNamesCardSaid : Prop := Claim7.holds Tryz.pinned (.plain (OpenSpec.ofChange xferNamesSpec)) xferNamesCard

/-- THE SECOND FORM's CARD OF 'facetroomlaw28.XferNames'. -/
def xferNamesUptoCard : Claim7 := { stood := { row := xferNamesUptoRow, standIns := [], harness := (true, "39b39690e39d4fd02599afd3f6f057685e3330f6c46f58343e14d051bd7dd218"), looks := true }, kinds := [], alts := [], laidByText := true, laidKinds := [.sentinel, .sentinel, .data, .data, .data, .data, .listed], laidTests := true, laidLooks := .later }
def XferNamesUptoCardSaid : Prop := Claim7.holds Tryz.pinned (.plain (OpenSpec.upto xferNamesSpec)) xferNamesUptoCard
end Rows
end Go.Proofs.YtedembbgeljdkaaGreatDoor
