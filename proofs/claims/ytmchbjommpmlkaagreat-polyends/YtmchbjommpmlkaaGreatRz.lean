/-
  The rest of the law's run, run by the kernel.
-/
import Derived.Test.YtmchbjommpmlkaaGreatMt
import Derived.KernelRfl
namespace Go.Proofs.YtmchbjommpmlkaaGreat.Ev
open Go
set_option maxRecDepth 1000000
set_option linter.all false
noncomputable def isT (r : R) : Bool := @Option.rec (AV × Heap) (fun _ => Bool) false (fun p => @Prod.rec _ _ (fun _ => Bool) (fun v _ => match v with | .bool b => b | _ => false) p) r
theorem isT_some {r : R} (h : isT r = true) : ∃ H', r = some (.bool true, H') := by
  cases r with
  | none => cases h
  | some p =>
    obtain ⟨v, H'⟩ := p
    cases v <;> first | (cases h; done) | skip
    rename_i b
    cases b
    · cases h
    · exact ⟨H', rfl⟩
theorem run_true_0 : isT (runM_0 0 (.fn 3 [(.int .i64 0)]) ⟨0, Tr.nil⟩ (fun v H => some (v, H))) = true := by kernel_rfl
theorem run_law_0 : ∃ H', runM_0 0 (.fn 3 [(.int .i64 0)]) ⟨0, Tr.nil⟩ (fun v H => some (v, H)) = some (.bool true, H') := isT_some run_true_0
theorem run_true_1 : isT (runM_1 2 (.fn 3 [(.int .i64 1)]) ⟨0, Tr.nil⟩ (fun v H => some (v, H))) = true := by kernel_rfl
theorem run_law_1 : ∃ H', runM_1 2 (.fn 3 [(.int .i64 1)]) ⟨0, Tr.nil⟩ (fun v H => some (v, H)) = some (.bool true, H') := isT_some run_true_1
theorem run_true_2 : isT (runM_2 7 (.fn 3 [(.int .i64 2)]) ⟨0, Tr.nil⟩ (fun v H => some (v, H))) = true := by kernel_rfl
theorem run_law_2 : ∃ H', runM_2 7 (.fn 3 [(.int .i64 2)]) ⟨0, Tr.nil⟩ (fun v H => some (v, H)) = some (.bool true, H') := isT_some run_true_2
theorem run_true_3 : isT (runM_3 26 (.fn 3 [(.int .i64 3)]) ⟨0, Tr.nil⟩ (fun v H => some (v, H))) = true := by kernel_rfl
theorem run_law_3 : ∃ H', runM_3 26 (.fn 3 [(.int .i64 3)]) ⟨0, Tr.nil⟩ (fun v H => some (v, H)) = some (.bool true, H') := isT_some run_true_3
theorem run_true_4 : isT (runM_4 103 (.fn 3 [(.int .i64 4)]) ⟨0, Tr.nil⟩ (fun v H => some (v, H))) = true := by kernel_rfl
theorem run_law_4 : ∃ H', runM_4 103 (.fn 3 [(.int .i64 4)]) ⟨0, Tr.nil⟩ (fun v H => some (v, H)) = some (.bool true, H') := isT_some run_true_4
theorem run_true_5 : isT (runM_5 0 (.fn 3 [(.int .i64 5)]) ⟨0, Tr.nil⟩ (fun v H => some (v, H))) = true := by kernel_rfl
theorem run_law_5 : ∃ H', runM_5 0 (.fn 3 [(.int .i64 5)]) ⟨0, Tr.nil⟩ (fun v H => some (v, H)) = some (.bool true, H') := isT_some run_true_5
theorem run_true_6 : isT (runM_6 0 (.fn 3 [(.int .i64 6)]) ⟨0, Tr.nil⟩ (fun v H => some (v, H))) = true := by kernel_rfl
theorem run_law_6 : ∃ H', runM_6 0 (.fn 3 [(.int .i64 6)]) ⟨0, Tr.nil⟩ (fun v H => some (v, H)) = some (.bool true, H') := isT_some run_true_6
theorem run_true_7 : isT (runM_7 0 (.fn 3 [(.int .i64 7)]) ⟨0, Tr.nil⟩ (fun v H => some (v, H))) = true := by kernel_rfl
theorem run_law_7 : ∃ H', runM_7 0 (.fn 3 [(.int .i64 7)]) ⟨0, Tr.nil⟩ (fun v H => some (v, H)) = some (.bool true, H') := isT_some run_true_7
theorem run_true_8 : isT (runM_8 0 (.fn 3 [(.int .i64 8)]) ⟨0, Tr.nil⟩ (fun v H => some (v, H))) = true := by kernel_rfl
theorem run_law_8 : ∃ H', runM_8 0 (.fn 3 [(.int .i64 8)]) ⟨0, Tr.nil⟩ (fun v H => some (v, H)) = some (.bool true, H') := isT_some run_true_8
end Go.Proofs.YtmchbjommpmlkaaGreat.Ev
