/-
  A world in which the listed variables hold what the row says: the premises can be met.
-/
import Derived.Test.YtopigipibioclaaGreatDoorCards
import Derived.WalkKit
import Derived.ProofKit
import Derived.OpenShut
import Derived.MakeChecks
import Derived.LaidMore
import Derived.Lay
namespace Go.Proofs.YtopigipibioclaaGreatDoor.law
open Go.ChangeShapes Go.WideShapes Go.ChangeAt Go.RowKit
set_option linter.all false
set_option maxRecDepth 100000

noncomputable abbrev w0 (os : Os) : World := World.laidAll Tryz.prog os Rows.reportNamesRow.laid
theorem a1 : (Rows.reportNamesRow.laid.all fun x => x.2.handleName?.isNone) = true := by kernel_rfl
theorem a2 (os : Os) : (World.holding Tryz.prog os ⟨#[], #[], []⟩).layFits Tryz.prog Rows.reportNamesRow.laid [] = true := by kernel_rfl
theorem a3 (os : Os) : (World.holding Tryz.prog os ⟨#[], #[], []⟩).layIfaces Tryz.prog Rows.reportNamesRow.laid (World.laidAll Tryz.prog os Rows.reportNamesRow.laid) = true := by kernel_rfl
theorem a5 (os : Os) : (((w0 os).forCall (fun _ _ => 0) ⟨#[], #[], []⟩).heap.toList.drop Tryz.prog.globals.size).take ((begin Tryz.prog (fun _ _ => 0) default).world.heap.size - Tryz.prog.globals.size) =
      (begin Tryz.prog (fun _ _ => 0) default).world.heap.toList.drop Tryz.prog.globals.size := by kernel_rfl
theorem a4 (os : Os) : ((w0 os).forCall (fun _ _ => 0) ⟨#[], #[], []⟩).variablesZipB Tryz.prog = true := by kernel_rfl
theorem a6 (os : Os) : Input.okWideB Tryz.prog ((w0 os).forCall (fun _ _ => 0) ⟨#[], #[], []⟩) 3 ⟨#[], #[], []⟩ = true := by kernel_rfl
theorem a7 (os : Os) {H : Type} (enc : TypeId × Value → H) : Rows.reportNamesSpec.preB enc Tryz.prog Tryz.f3 Rows.reportNamesRow.domain false ((w0 os).forCall (fun _ _ => 0) ⟨#[], #[], []⟩).memory #[] 8 = true := by kernel_rfl
theorem a8 (os : Os) {H : Type} (enc : TypeId × Value → H) : Rows.reportNamesSpec.sizedB enc Tryz.prog Tryz.f3 false ((w0 os).forCall (fun _ _ => 0) ⟨#[], #[], []⟩).memory #[] 8 = true := by kernel_rfl
theorem met (os : Os) : laidMetH Tryz.prog Rows.reportNamesRow.laid ((w0 os).forCall (fun _ _ => 0) ⟨#[], #[], []⟩).memory := by
  rw [MakeChecks.laidMetH_plain _ _ _ a1]
  exact laidMet_laidAll _ (a2 os) (a3 os)
theorem yE (os : Os) : ((w0 os).forCall (fun _ _ => 0) ⟨#[], #[], []⟩).Shaped Tryz.prog := World.shaped_of_ZipB (a4 os) (a5 os)
end Go.Proofs.YtopigipibioclaaGreatDoor.law
