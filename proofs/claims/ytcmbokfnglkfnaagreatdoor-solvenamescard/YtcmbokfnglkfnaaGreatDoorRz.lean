/-
  The rest of the law's run, run by the kernel.
-/
import Derived.Test.YtcmbokfnglkfnaaGreatDoorMt
import Derived.KernelRfl
namespace Go.Proofs.YtcmbokfnglkfnaaGreatDoor.Ev
open Go
set_option maxRecDepth 1000000
set_option linter.all false
noncomputable def isT (r : R) : Bool := @Option.rec (AV × Heap) (fun _ => Bool) false (fun p => @Prod.rec _ _ (fun _ => Bool) (fun v _ => match v with | .bool b => b | _ => false) p) r
theorem isT_some {r : R} (h : isT r = true) : ∃ H', r = some (.bool true, H') := by
  cases r with
  | none => cases h
  | some p =>
    obtain ⟨v, H'⟩ := p
    cases v <;> first | (cases h; done) | skip
    rename_i b
    cases b
    · cases h
    · exact ⟨H', rfl⟩
theorem run_true : isT (runM trR tpR 75 (.fn 3 []) (Heap.nil 0) (fun v H => some (v, H))) = true := by kernel_rfl
theorem run_law : ∃ H', runM trR tpR 75 (.fn 3 []) (Heap.nil 0) (fun v H => some (v, H)) = some (.bool true, H') := isT_some run_true
end Go.Proofs.YtcmbokfnglkfnaaGreatDoor.Ev
