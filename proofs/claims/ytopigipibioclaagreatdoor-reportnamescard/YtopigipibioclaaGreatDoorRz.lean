/-
  The rest of the law's run, run by the kernel.
-/
import Derived.Test.YtopigipibioclaaGreatDoorMt
import Derived.KernelRfl
namespace Go.Proofs.YtopigipibioclaaGreatDoor.Ev
open Go
set_option maxHeartbeats 4000000
set_option maxRecDepth 1000000
set_option linter.all false
noncomputable def isT (r : R) : Bool := @Option.rec (AV × Heap) (fun _ => Bool) false (fun p => @Prod.rec _ _ (fun _ => Bool) (fun v _ => match v with | .bool b => b | _ => false) p) r
theorem rS {r : R} (h : isT r = true) : ∃ H', r = some (.bool true, H') := by
  cases r with
  | none => cases h
  | some p =>
    obtain ⟨v, H'⟩ := p
    cases v <;> first | (cases h; done) | skip
    rename_i b
    cases b
    · cases h
    · exact ⟨H', rfl⟩
theorem rt : isT (bG trR tpR 119 (.fn 3 []) (Heap.nil 0) (fun v H => some (v, H))) = true := by kernel_rfl
theorem ve : ∃ H', bG trR tpR 119 (.fn 3 []) (Heap.nil 0) (fun v H => some (v, H)) = some (.bool true, H') := rS rt
end Go.Proofs.YtopigipibioclaaGreatDoor.Ev
