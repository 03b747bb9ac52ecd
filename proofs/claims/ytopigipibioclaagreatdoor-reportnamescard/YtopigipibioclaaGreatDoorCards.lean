/-
  DERIVED. GIVEN WITH THE SEED: THE CARDS: each row of YtopigipibioclaaGreatDoorRows.lean that lists a variable, with what it lists TIED to the program's text (the seventh form; the later family's looks); each row that meets fmt, with fmt's text TOLD by the authors' own Lean function (tested against real Go, not proved from fmt's source: count such statements apart). THE CARD IS WHAT COUNTS. Prove the row's statement (the work); the ties are given (YtopigipibioclaaGreatDoorTie.lean); close each card by the builder's one call (the guide's Derived/Test/ToyasCard.lean, 'card_holds'). Laid BY PROGRAM, IN A SANDBOX (cutbox-door.mjs). By AI agents, Wed Nov 11 2026. No macro, syntax, notation, axiom, sorry.
-/
import Derived.Test.YtopigipibioclaaGreatDoorRows
import GoSem.ClaimSeven
namespace Go.Proofs.YtopigipibioclaaGreatDoor
namespace Rows

/-- THE TIED CARD OF 'facetroomlaw31.ReportNames'. -/
def reportNamesCard : Claim7 := { stood := { row := reportNamesRow, standIns := [], harness := (true, "837c162a9e7978690a32dad68668a3c938c8891618013ff58af4200b52e1211f"), looks := true }, kinds := [], alts := [], laidByText := true, laidKinds := [.sentinel, .sentinel, .data, .data, .data, .data, .listed], laidTests := true, laidLooks := .later }
def ReportNamesCardSaid : Prop := Claim7.holds Tryz.pinned (.plain (OpenSpec.ofChange reportNamesSpec)) reportNamesCard

/-- THE SECOND FORM's CARD OF 'facetroomlaw31.ReportNames'. -/
def reportNamesUptoCard : Claim7 := { stood := { row := reportNamesUptoRow, standIns := [], harness := (true, "837c162a9e7978690a32dad68668a3c938c8891618013ff58af4200b52e1211f"), looks := true }, kinds := [], alts := [], laidByText := true, laidKinds := [.sentinel, .sentinel, .data, .data, .data, .data, .listed], laidTests := true, laidLooks := .later }
def ReportNamesUptoCardSaid : Prop := Claim7.holds Tryz.pinned (.plain (OpenSpec.upto reportNamesSpec)) reportNamesUptoCard
end Rows
end Go.Proofs.YtopigipibioclaaGreatDoor
