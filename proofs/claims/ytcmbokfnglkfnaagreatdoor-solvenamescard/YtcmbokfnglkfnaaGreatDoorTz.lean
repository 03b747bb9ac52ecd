/-
  What the row lists is what the program's text lays: as the given tie says it, in pieces that the kernel has room for (that no place stands twice is asked of their numbers).
-/
import Derived.Test.YtcmbokfnglkfnaaGreatDoorRows
import Derived.Test.YtcmbokfnglkfnaaGreatDoorEvRen
import Derived.LaidByTextLater
import Derived.SevenTiedAt
namespace Go.Proofs.YtcmbokfnglkfnaaGreatDoor.law
open Go
set_option linter.all false

noncomputable abbrev laid : List (String × DataW Unit) := Rows.solveNamesRow.laid
abbrev kinds : List LaidKind := [.sentinel, .sentinel, .data, .data, .data, .data, .listed]
theorem noOwnUnsafe : Tryz.pinned.checked.prog.headLifts.contains "ownunsafe" = false := by kernel_rfl
theorem b0 : (Tryz.prog.worded (varsWordLater true) && (!(Tryz.prog.worded (varsWordLater !true)) && (Tryz.prog.worded rootWordLater && (Tryz.prog.funcNamed "gosem.cut.vars").isSome))) = true := by kernel_rfl
theorem b4 : laid.map (fun x => Tryz.prog.kindOfLater x.1) = kinds.map some := by kernel_rfl
theorem b6 : varsNamedLaterB Tryz.prog (varsId Tryz.prog) laid = true := by kernel_rfl
theorem b7 (os : Os) (tape : Tape) : varsDone Tryz.prog 400 (varsId Tryz.prog) os tape = true := by kernel_rfl
noncomputable abbrev ran (os : Os) (tape : Tape) := DataW.laidRun Tryz.prog (varsWorld Tryz.prog 400 (varsId Tryz.prog) os tape).memory 8 (laid.map (·.1))
theorem b8 (os : Os) (tape : Tape) : (ran os tape).map (·.1) = some laid := by kernel_rfl

def numP : MemPlace → Nat
  | .cell b off => 2 * (b * 1048576 + off) + 1
  | .map b => 2 * b
theorem nodup_num : ∀ (l : List MemPlace), Ev.nodupN (l.map numP) = true → l.Nodup
  | [], _ => List.nodup_nil
  | a :: l, h2 => by
    simp only [List.map_cons, Ev.nodupN, Bool.and_eq_true] at h2
    refine List.nodup_cons.2 ⟨fun hm => ?_, nodup_num l h2.2⟩
    have := List.all_eq_true.1 h2.1 (numP a) (List.mem_map.2 ⟨a, hm, rfl⟩)
    rw [Nat.beq_refl] at this; cases this

noncomputable abbrev rows (os : Os) (tape : Tape) : List MemPlace := ((ran os tape).getD ([], [])).2
theorem c1 (os : Os) (tape : Tape) : Ev.nodupN ((rows os tape).map numP) = true := by kernel_rfl
theorem c2 (os : Os) (tape : Tape) : laidRowsB Tryz.prog (varsWorld Tryz.prog 400 (varsId Tryz.prog) os tape).memory (rows os tape) = true := by kernel_rfl

theorem b9 (os : Os) (tape : Tape) : (ran os tape).map (fun x => decide x.2.Nodup && laidRowsB Tryz.prog (varsWorld Tryz.prog 400 (varsId Tryz.prog) os tape).memory x.2) = some true := by
  have h1 := c1 os tape
  have h2 := c2 os tape
  have h3 := b8 os tape
  unfold rows at h1 h2
  generalize ran os tape = r at h1 h2 h3 ⊢
  cases r with
  | none => cases h3
  | some x =>
    simp only [Option.getD_some] at h1 h2
    simp only [Option.map_some, Option.some.injEq, Bool.and_eq_true]
    exact ⟨decide_eq_true (nodup_num _ h1), h2⟩

theorem tie : Tryz.prog.laidByTextLater laid kinds true := by
  have h := b0
  simp only [Bool.and_eq_true, Bool.not_eq_true'] at h
  exact Program.laidByTextLater_by_run 400 8 h.1 h.2.1 h.2.2.1 b4 h.2.2.2 b6 b7 b8 b9
theorem row_tie : Rows.solveNamesRow.laidByTextAt .later Tryz.pinned kinds true :=
  OpenClaim.laidByTextAt_later rfl rfl tie noOwnUnsafe
end Go.Proofs.YtcmbokfnglkfnaaGreatDoor.law
