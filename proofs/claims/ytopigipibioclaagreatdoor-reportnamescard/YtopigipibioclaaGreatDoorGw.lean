/-
  THE PROGRAM's VARIABLES that the run reads: the row's list says what their cells hold.
-/
import Derived.Test.YtopigipibioclaaGreatDoorRows
import Derived.Test.YtopigipibioclaaGreatDoorEvRen
import Derived.Lib.LaidTab
import Derived.MakeChecks
import Derived.KernelRfl
namespace Go.Proofs.YtopigipibioclaaGreatDoor.Ev
open Go
set_option linter.all false

theorem mU {P : Program} {W : World} : ∀ {laid : List (String × DataW Unit)} {ps : List MemPlace}, DataW.LaidVars P W laid ps → ∀ (i : Nat) n d, laid[i]? = some (n, d) →
    ∃ g t cs fuel p, P.globalNamed n = some g ∧ (P.globals[g]?).map (·.type) = some t ∧ W.var? P n = some cs ∧ DataW.trod (fun _ => ()) P W 0 (fun _ => true) false fuel t cs.toList = some (d, p)
  | [], _, _, i, n, d, hi => by simp at hi
  | (n0, d0) :: r, ps, h, i, n, d, hi => by
    obtain ⟨g, t, cs, fuel, p, q, h1, h2, h3, h4, h5, _⟩ := h
    cases i with
    | zero => simp only [List.getElem?_cons_zero, Option.some.injEq, Prod.mk.injEq] at hi; obtain ⟨rfl, rfl⟩ := hi; exact ⟨g, t, cs, fuel, p, h1, h2, h3, h4⟩
    | succ i => exact mU h5 i n d (by simpa using hi)

theorem vF {P : Program} {W : World} {laid : List (String × DataW Unit)} (h : laidMet P laid W) {i : Nat} {n : String} {d : DataW Unit} (hi : laid[i]? = some (n, d)) {g t e m : Nat} {k : IntKind} {zs : List Int}
    (hd : d = Lib.tabData k zs) (hg : P.globalNamed n = some g) (hty : (P.globals[g]?).map (·.type) = some t) (ht : P.underlying t = some (.array m e)) (he : P.underlying e = some (.int k)) (hce : P.cellsOf e = 1) (hct : P.cellsOf t = m)
    {F : Nat → Prop} (hF : F g) : VR (fun _ => none) F W (.dp (zs.map fun z => AV.int k z) 0) (.pointer (some ⟨g, 0, none⟩)) := by
  obtain ⟨ps, hv, _, _⟩ := h
  obtain ⟨g', t', cs, fuel, p, h1, h2, h3, h4⟩ := mU hv i n d hi
  obtain rfl := Option.some.inj (hg.symm.trans h1)
  obtain rfl := Option.some.inj (hty.symm.trans h2)
  subst hd
  have hcs := Lib.cells_of_tab ht he hce hct h4
  unfold World.var? at h3
  rw [hg] at h3
  simp only [Option.bind_some] at h3
  split at h3
  · rename_i arr ty fr hb
    cases h3
    have := VR.dp (μ := fun _ => none) (F := F) (w := W) (zs.map fun z => AV.int k z) 0 g 0 cs ty fr hF hb (by rw [List.length_map, Nat.zero_add, ← Array.length_toList, hcs, List.length_map]; exact Nat.le_refl _) ?_
    · exact this
    · intro j c v hc hv
      rw [Nat.zero_add, ← Array.getElem?_toList, hcs, List.getElem?_map] at hv
      rw [List.getElem?_map] at hc
      cases hz : zs[j]? with
      | none => rw [hz] at hc; cases hc
      | some z =>
        rw [hz] at hc hv
        cases hc; cases hv
        exact .int _ _
  · cases h3

def zs0 : List Int := [0, 0, 0, 0, 0, 0, 0, 0, 0, 1, 1, 1, 1, 1, 0, 0, 0, 0, 0, 0, 0, 0, 0, 0, 0, 0, 0, 0, 0, 0, 0, 0, 1, 0, 0, 0, 0, 0, 0, 0, 0, 0, 0, 0, 0, 0, 0, 0, 0, 0, 0, 0, 0, 0, 0, 0, 0, 0, 0, 0, 0, 0, 0, 0, 0, 0, 0, 0, 0, 0, 0, 0, 0, 0, 0, 0, 0, 0, 0, 0, 0, 0, 0, 0, 0, 0, 0, 0, 0, 0, 0, 0, 0, 0, 0, 0, 0, 0, 0, 0, 0, 0, 0, 0, 0, 0, 0, 0, 0, 0, 0, 0, 0, 0, 0, 0, 0, 0, 0, 0, 0, 0, 0, 0, 0, 0, 0, 0, 0, 0, 0, 0, 0, 0, 0, 0, 0, 0, 0, 0, 0, 0, 0, 0, 0, 0, 0, 0, 0, 0, 0, 0, 0, 0, 0, 0, 0, 0, 0, 0, 0, 0, 0, 0, 0, 0, 0, 0, 0, 0, 0, 0, 0, 0, 0, 0, 0, 0, 0, 0, 0, 0, 0, 0, 0, 0, 0, 0, 0, 0, 0, 0, 0, 0, 0, 0, 0, 0, 0, 0, 0, 0, 0, 0, 0, 0, 0, 0, 0, 0, 0, 0, 0, 0, 0, 0, 0, 0, 0, 0, 0, 0, 0, 0, 0, 0, 0, 0, 0, 0, 0, 0, 0, 0, 0, 0, 0, 0, 0, 0, 0, 0, 0, 0, 0, 0, 0, 0, 0, 0, 0, 0, 0, 0, 0, 0]
theorem vr0 {W : World} (h : laidMet Tryz.prog Rows.reportNamesRow.laid W) : VR (fun _ => none) (fun c => (ke c).isSome = true) W (.dp (zs0.map fun z => AV.int .u8 z) 0) (.pointer (some ⟨0, 0, none⟩)) :=
  vF h (i := 5) rfl (g := 0) (t := 421) (e := 5) (m := 256) (k := .u8) (zs := zs0) (by kernel_rfl) (by kernel_rfl) (by kernel_rfl) Tryz.underlying421 Tryz.underlying5 (by kernel_rfl) (by kernel_rfl) (by kernel_rfl)
theorem globW {W : World} (h0 : laidMetH Tryz.prog Rows.reportNamesRow.laid W) : nG W := by
  have h := h0
  rw [MakeChecks.laidMetH_plain _ _ _ (by kernel_rfl)] at h
  intro g cs hg
  by_cases e0 : g = 0
  · subst e0
    have e := Option.some.inj (hg.symm.trans (show ke 0 = some (zs0.map fun z => AV.int .u8 z) by kernel_rfl))
    rw [e]
    exact vr0 h
  exfalso
  unfold ke at hg
  rw [show Nat.beq g 0 = false from aog e0, cond_false] at hg
  cases hg

end Go.Proofs.YtopigipibioclaaGreatDoor.Ev
