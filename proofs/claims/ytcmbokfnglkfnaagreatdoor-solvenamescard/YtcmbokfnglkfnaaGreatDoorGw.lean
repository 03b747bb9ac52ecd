/-
  THE PROGRAM's VARIABLES that the run reads: the row's list says what their cells hold.
-/
import Derived.Test.YtcmbokfnglkfnaaGreatDoorRows
import Derived.Test.YtcmbokfnglkfnaaGreatDoorEvRen
import Derived.Lib.LaidTab
import Derived.MakeChecks
import Derived.KernelRfl
namespace Go.Proofs.YtcmbokfnglkfnaaGreatDoor.Ev
open Go
set_option linter.all false

theorem mem_vars {P : Program} {W : World} : ∀ {laid : List (String × DataW Unit)} {ps : List MemPlace}, DataW.LaidVars P W laid ps → ∀ (i : Nat) n d, laid[i]? = some (n, d) →
    ∃ g t cs fuel p, P.globalNamed n = some g ∧ (P.globals[g]?).map (·.type) = some t ∧ W.var? P n = some cs ∧ DataW.trod (fun _ => ()) P W 0 (fun _ => true) false fuel t cs.toList = some (d, p)
  | [], _, _, i, n, d, hi => by simp at hi
  | (n0, d0) :: r, ps, h, i, n, d, hi => by
    obtain ⟨g, t, cs, fuel, p, q, h1, h2, h3, h4, h5, _⟩ := h
    cases i with
    | zero => simp only [List.getElem?_cons_zero, Option.some.injEq, Prod.mk.injEq] at hi; obtain ⟨rfl, rfl⟩ := hi; exact ⟨g, t, cs, fuel, p, h1, h2, h3, h4⟩
    | succ i => exact mem_vars h5 i n d (by simpa using hi)

theorem laid_vr {P : Program} {W : World} {laid : List (String × DataW Unit)} (h : laidMet P laid W) {i : Nat} {n : String} {d : DataW Unit} (hi : laid[i]? = some (n, d)) {g t e m : Nat} {k : IntKind} {zs : List Int}
    (hd : d = Lib.tabData k zs) (hg : P.globalNamed n = some g) (hty : (P.globals[g]?).map (·.type) = some t) (ht : P.underlying t = some (.array m e)) (he : P.underlying e = some (.int k)) (hce : P.cellsOf e = 1) (hct : P.cellsOf t = m)
    {F : Nat → Prop} (hF : F g) : VR (fun _ => none) F W (.dp (zs.map fun z => AV.int k z) 0) (.pointer (some ⟨g, 0, none⟩)) := by
  obtain ⟨ps, hv, _, _⟩ := h
  obtain ⟨g', t', cs, fuel, p, h1, h2, h3, h4⟩ := mem_vars hv i n d hi
  obtain rfl := Option.some.inj (hg.symm.trans h1)
  obtain rfl := Option.some.inj (hty.symm.trans h2)
  subst hd
  have hcs := Lib.cells_of_tab ht he hce hct h4
  unfold World.var? at h3
  rw [hg] at h3
  simp only [Option.bind_some] at h3
  split at h3
  · rename_i arr ty fr hb
    cases h3
    have := VR.dp (μ := fun _ => none) (F := F) (w := W) (zs.map fun z => AV.int k z) 0 g 0 cs ty fr hF hb (by rw [List.length_map, Nat.zero_add, ← Array.length_toList, hcs, List.length_map]; exact Nat.le_refl _) ?_
    · exact this
    · intro j c v hc hv
      rw [Nat.zero_add, ← Array.getElem?_toList, hcs, List.getElem?_map] at hv
      rw [List.getElem?_map] at hc
      cases hz : zs[j]? with
      | none => rw [hz] at hc; cases hc
      | some z =>
        rw [hz] at hc hv
        cases hc; cases hv
        exact .int _ _
  · cases h3

def zs2 : List Int := [1, 10, 100, 1000, 10000, 100000, 1000000, 10000000, 100000000, 1000000000, 10000000000, 100000000000, 1000000000000, 10000000000000, 100000000000000, 1000000000000000, 10000000000000000, 100000000000000000, 1000000000000000000, 10000000000000000000]
theorem vr2 {W : World} (h : laidMet Tryz.prog Rows.solveNamesRow.laid W) : VR (fun _ => none) (fun c => (Glob c).isSome = true) W (.dp (zs2.map fun z => AV.int .u64 z) 0) (.pointer (some ⟨2, 0, none⟩)) :=
  laid_vr h (i := 2) rfl (g := 2) (t := 524) (e := 158) (m := 20) (k := .u64) (zs := zs2) (by kernel_rfl) (by kernel_rfl) (by kernel_rfl) Tryz.underlying524 Tryz.underlying158 (by kernel_rfl) (by kernel_rfl) (by kernel_rfl)
def zs3 : List Int := [0, 0, 0, 0, 0, 0, 0, 0, 0, 1, 1, 1, 1, 1, 0, 0, 0, 0, 0, 0, 0, 0, 0, 0, 0, 0, 0, 0, 0, 0, 0, 0, 1, 0, 0, 0, 0, 0, 0, 0, 0, 0, 0, 0, 0, 0, 0, 0, 0, 0, 0, 0, 0, 0, 0, 0, 0, 0, 0, 0, 0, 0, 0, 0, 0, 0, 0, 0, 0, 0, 0, 0, 0, 0, 0, 0, 0, 0, 0, 0, 0, 0, 0, 0, 0, 0, 0, 0, 0, 0, 0, 0, 0, 0, 0, 0, 0, 0, 0, 0, 0, 0, 0, 0, 0, 0, 0, 0, 0, 0, 0, 0, 0, 0, 0, 0, 0, 0, 0, 0, 0, 0, 0, 0, 0, 0, 0, 0, 0, 0, 0, 0, 0, 0, 0, 0, 0, 0, 0, 0, 0, 0, 0, 0, 0, 0, 0, 0, 0, 0, 0, 0, 0, 0, 0, 0, 0, 0, 0, 0, 0, 0, 0, 0, 0, 0, 0, 0, 0, 0, 0, 0, 0, 0, 0, 0, 0, 0, 0, 0, 0, 0, 0, 0, 0, 0, 0, 0, 0, 0, 0, 0, 0, 0, 0, 0, 0, 0, 0, 0, 0, 0, 0, 0, 0, 0, 0, 0, 0, 0, 0, 0, 0, 0, 0, 0, 0, 0, 0, 0, 0, 0, 0, 0, 0, 0, 0, 0, 0, 0, 0, 0, 0, 0, 0, 0, 0, 0, 0, 0, 0, 0, 0, 0, 0, 0, 0, 0, 0, 0, 0, 0, 0, 0, 0, 0]
theorem vr3 {W : World} (h : laidMet Tryz.prog Rows.solveNamesRow.laid W) : VR (fun _ => none) (fun c => (Glob c).isSome = true) W (.dp (zs3.map fun z => AV.int .u8 z) 0) (.pointer (some ⟨3, 0, none⟩)) :=
  laid_vr h (i := 5) rfl (g := 3) (t := 567) (e := 5) (m := 256) (k := .u8) (zs := zs3) (by kernel_rfl) (by kernel_rfl) (by kernel_rfl) Tryz.underlying567 Tryz.underlying5 (by kernel_rfl) (by kernel_rfl) (by kernel_rfl)
def zs4 : List Int := [0, 1, 28, 2, 29, 14, 24, 3, 30, 22, 20, 15, 25, 17, 4, 8, 31, 27, 13, 23, 21, 19, 16, 7, 26, 12, 18, 6, 11, 5, 10, 9]
theorem vr4 {W : World} (h : laidMet Tryz.prog Rows.solveNamesRow.laid W) : VR (fun _ => none) (fun c => (Glob c).isSome = true) W (.dp (zs4.map fun z => AV.int .u8 z) 0) (.pointer (some ⟨4, 0, none⟩)) :=
  laid_vr h (i := 3) rfl (g := 4) (t := 606) (e := 5) (m := 32) (k := .u8) (zs := zs4) (by kernel_rfl) (by kernel_rfl) (by kernel_rfl) Tryz.underlying606 Tryz.underlying5 (by kernel_rfl) (by kernel_rfl) (by kernel_rfl)
def zs5 : List Int := [0, 1, 56, 2, 57, 49, 28, 3, 61, 58, 42, 50, 38, 29, 17, 4, 62, 47, 59, 36, 45, 43, 51, 22, 53, 39, 33, 30, 24, 18, 12, 5, 63, 55, 48, 27, 60, 41, 37, 16, 46, 35, 44, 21, 52, 32, 23, 11, 54, 26, 40, 15, 34, 20, 31, 10, 25, 14, 19, 9, 13, 8, 7, 6]
theorem vr5 {W : World} (h : laidMet Tryz.prog Rows.solveNamesRow.laid W) : VR (fun _ => none) (fun c => (Glob c).isSome = true) W (.dp (zs5.map fun z => AV.int .u8 z) 0) (.pointer (some ⟨5, 0, none⟩)) :=
  laid_vr h (i := 4) rfl (g := 5) (t := 607) (e := 5) (m := 64) (k := .u8) (zs := zs5) (by kernel_rfl) (by kernel_rfl) (by kernel_rfl) Tryz.underlying607 Tryz.underlying5 (by kernel_rfl) (by kernel_rfl) (by kernel_rfl)
theorem globW {W : World} (h0 : laidMetH Tryz.prog Rows.solveNamesRow.laid W) : GlobW W := by
  have h := h0
  rw [MakeChecks.laidMetH_plain _ _ _ (by kernel_rfl)] at h
  intro g cs hg
  by_cases e2 : g = 2
  · subst e2
    have e := Option.some.inj (hg.symm.trans (show Glob 2 = some (zs2.map fun z => AV.int .u64 z) by kernel_rfl))
    rw [e]
    exact vr2 h
  by_cases e3 : g = 3
  · subst e3
    have e := Option.some.inj (hg.symm.trans (show Glob 3 = some (zs3.map fun z => AV.int .u8 z) by kernel_rfl))
    rw [e]
    exact vr3 h
  by_cases e4 : g = 4
  · subst e4
    have e := Option.some.inj (hg.symm.trans (show Glob 4 = some (zs4.map fun z => AV.int .u8 z) by kernel_rfl))
    rw [e]
    exact vr4 h
  by_cases e5 : g = 5
  · subst e5
    have e := Option.some.inj (hg.symm.trans (show Glob 5 = some (zs5.map fun z => AV.int .u8 z) by kernel_rfl))
    rw [e]
    exact vr5 h
  exfalso
  unfold Glob at hg
  rw [show Nat.beq g 2 = false from acw e2, cond_false] at hg
  rw [show Nat.beq g 3 = false from acw e3, cond_false] at hg
  rw [show Nat.beq g 4 = false from acw e4, cond_false] at hg
  rw [show Nat.beq g 5 = false from acw e5, cond_false] at hg
  cases hg

end Go.Proofs.YtcmbokfnglkfnaaGreatDoor.Ev
