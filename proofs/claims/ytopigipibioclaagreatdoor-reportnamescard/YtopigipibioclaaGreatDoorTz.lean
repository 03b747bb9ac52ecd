/-
  What the row lists is what the program's text lays: as the given tie says it, in pieces that the kernel has room for (that no place stands twice is asked of their numbers).
-/
import Derived.Test.YtopigipibioclaaGreatDoorRows
import Derived.Test.YtopigipibioclaaGreatDoorEvRen
import Derived.LaidByTextLater
import Derived.SevenTiedAt
namespace Go.Proofs.YtopigipibioclaaGreatDoor.law
open Go
set_option linter.all false

noncomputable abbrev laid : List (String × DataW Unit) := Rows.reportNamesRow.laid
abbrev kinds : List LaidKind := [.sentinel, .sentinel, .data, .data, .data, .data, .listed]
theorem mS : Tryz.pinned.checked.prog.headLifts.contains "ownunsafe" = false := by kernel_rfl
theorem b0 : (Tryz.prog.worded (varsWordLater true) && (!(Tryz.prog.worded (varsWordLater !true)) && (Tryz.prog.worded rootWordLater && (Tryz.prog.funcNamed "gosem.cut.vars").isSome))) = true := by kernel_rfl
theorem b4 : laid.map (fun x => Tryz.prog.kindOfLater x.1) = kinds.map some := by kernel_rfl
theorem b6 : varsNamedLaterB Tryz.prog (varsId Tryz.prog) laid = true := by kernel_rfl
theorem b7 (os : Os) (tape : Tape) : varsDone Tryz.prog 400 (varsId Tryz.prog) os tape = true := by kernel_rfl
noncomputable abbrev X6 (os : Os) (tape : Tape) := DataW.laidRun Tryz.prog (varsWorld Tryz.prog 400 (varsId Tryz.prog) os tape).memory 8 (laid.map (·.1))
theorem b8 (os : Os) (tape : Tape) : (X6 os tape).map (·.1) = some laid := by kernel_rfl

def zp : MemPlace → Nat
  | .cell b off => 2 * (b * 1048576 + off) + 1
  | .map b => 2 * b
theorem l1 : ∀ (l : List MemPlace), Ev.nodupN (l.map zp) = true → l.Nodup
  | [], _ => List.nodup_nil
  | a :: l, h2 => by
    simp only [List.map_cons, Ev.nodupN, Bool.and_eq_true] at h2
    refine List.nodup_cons.2 ⟨fun hm => ?_, l1 l h2.2⟩
    have := List.all_eq_true.1 h2.1 (zp a) (List.mem_map.2 ⟨a, hm, rfl⟩)
    rw [Nat.beq_refl] at this; cases this

noncomputable abbrev vj (os : Os) (tape : Tape) : List MemPlace := ((X6 os tape).getD ([], [])).2
theorem c1 (os : Os) (tape : Tape) : Ev.nodupN ((vj os tape).map zp) = true := by kernel_rfl
theorem c2 (os : Os) (tape : Tape) : laidRowsB Tryz.prog (varsWorld Tryz.prog 400 (varsId Tryz.prog) os tape).memory (vj os tape) = true := by kernel_rfl

theorem b9 (os : Os) (tape : Tape) : (X6 os tape).map (fun x => decide x.2.Nodup && laidRowsB Tryz.prog (varsWorld Tryz.prog 400 (varsId Tryz.prog) os tape).memory x.2) = some true := by
  have h1 := c1 os tape
  have h2 := c2 os tape
  have h3 := b8 os tape
  unfold vj at h1 h2
  generalize X6 os tape = r at h1 h2 h3 ⊢
  cases r with
  | none => cases h3
  | some x =>
    simp only [Option.getD_some] at h1 h2
    simp only [Option.map_some, Option.some.injEq, Bool.and_eq_true]
    exact ⟨decide_eq_true (l1 _ h1), h2⟩

theorem tie : Tryz.prog.laidByTextLater laid kinds true := by
  have h := b0
  simp only [Bool.and_eq_true, Bool.not_eq_true'] at h
  exact Program.laidByTextLater_by_run 400 8 h.1 h.2.1 h.2.2.1 b4 h.2.2.2 b6 b7 b8 b9
theorem vn : Rows.reportNamesRow.laidByTextAt .later Tryz.pinned kinds true :=
  OpenClaim.laidByTextAt_later rfl rfl tie mS
end Go.Proofs.YtopigipibioclaaGreatDoor.law
