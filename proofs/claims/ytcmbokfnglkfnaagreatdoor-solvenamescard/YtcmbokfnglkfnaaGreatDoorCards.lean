/-
  DERIVED. GIVEN WITH THE SEED: THE CARDS: each row of YtcmbokfnglkfnaaGreatDoorRows.lean that lists a variable, with what it lists TIED to the program's text (the seventh form; the later family's looks); each row that meets fmt, with fmt's text TOLD by the authors' own Lean function (tested against real Go, not proved from fmt's source: count such statements apart). THE CARD IS WHAT COUNTS. Prove the row's statement (the work); the ties are given (YtcmbokfnglkfnaaGreatDoorTie.lean); close each card by the builder's one call (the guide's Derived/Test/ToyasCard.lean, 'card_holds'). Laid BY PROGRAM, IN A SANDBOX (cutbox-door.mjs). By AI agents, Wed Nov 11 2026. No macro, syntax, notation, axiom, sorry.
-/
import Derived.Test.YtcmbokfnglkfnaaGreatDoorRows
import GoSem.ClaimSeven
namespace Go.Proofs.YtcmbokfnglkfnaaGreatDoor
namespace Rows

/-- THE TIED CARD OF 'facetroomlaw30.SolveNames'. -/
def solveNamesCard : Claim7 := { stood := { row := solveNamesRow, standIns := [], harness := (true, "dfb61042728e39855dbd5ca0075118b55fcd950973c94333e708eb0007cd588f"), looks := true }, kinds := [], alts := [], laidByText := true, laidKinds := [.sentinel, .sentinel, .data, .data, .data, .data, .listed], laidTests := true, laidLooks := .later }
def SolveNamesCardSaid : Prop := Claim7.holds Tryz.pinned (.plain (OpenSpec.ofChange solveNamesSpec)) solveNamesCard

/-- THE SECOND FORM's CARD OF 'facetroomlaw30.SolveNames'. -/
def solveNamesUptoCard : Claim7 := { stood := { row := solveNamesUptoRow, standIns := [], harness := (true, "dfb61042728e39855dbd5ca0075118b55fcd950973c94333e708eb0007cd588f"), looks := true }, kinds := [], alts := [], laidByText := true, laidKinds := [.sentinel, .sentinel, .data, .data, .data, .data, .listed], laidTests := true, laidLooks := .later }
def SolveNamesUptoCardSaid : Prop := Claim7.holds Tryz.pinned (.plain (OpenSpec.upto solveNamesSpec)) solveNamesUptoCard
end Rows
end Go.Proofs.YtcmbokfnglkfnaaGreatDoor
