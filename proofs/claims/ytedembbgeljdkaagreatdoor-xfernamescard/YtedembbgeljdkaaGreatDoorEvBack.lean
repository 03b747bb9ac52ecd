/-
  A VALUE THAT HAD ITS NAMES BEFORE A STEP needs no new ones behind it.
-/
import Derived.Test.YtedembbgeljdkaaGreatDoorEvRel
namespace Go.Proofs.YtedembbgeljdkaaGreatDoor.Ev
open Go
set_option linter.all false

section
variable {μ μ' : Mu} {F : Nat → Prop} {w w' : World}

theorem VR.back (hμ : ∀ b L, μ b = some L → μ' b = some L) {c : AV} {v0 : Value} (h0 : VR μ F w c v0) : ∀ {v : Value}, VR μ' F w' c v → VR μ F w' c v := by
  induction h0 with
  | undef v0 => intro v h; exact .undef v
  | bool b => intro v h; cases h; exact .bool b
  | int k n => intro v h; cases h; exact .int k n
  | str s => intro v h; cases h; exact .str s
  | nilPtr => intro v h; cases h; exact .nilPtr
  | nilSl => intro v h; cases h; exact .nilSl
  | nilFn => intro v h; cases h; exact .nilFn
  | nilIf => intro v h; cases h; exact .nilIf
  | nilMap => intro v h; cases h; exact .nilMap
  | agg cs vs hl hv ih =>
    intro v h
    cases h with
    | agg _ us hl' hv' =>
      refine .agg cs us hl' fun i c u hc hu => ?_
      obtain ⟨x, hx⟩ : ∃ x, vs[i]? = some x := ⟨vs[i]'(by have := (List.getElem?_eq_some_iff.1 hc).1; omega), Array.getElem?_eq_getElem _⟩
      exact ih i c x hc hx (hv' i c u hc hu)
  | tup cs vs hl hv ih =>
    intro v h
    cases h with
    | tup _ us hl' hv' =>
      refine .tup cs us hl' fun i c u hc hu => ?_
      obtain ⟨x, hx⟩ : ∃ x, vs[i]? = some x := ⟨vs[i]'(by have := (List.getElem?_eq_some_iff.1 hc).1; omega), Array.getElem?_eq_getElem _⟩
      exact ih i c x hc hx (hv' i c u hc hu)
  | sl0 a cap =>
    intro v h
    cases h with
    | sl0 a cap => exact .sl0 a cap
    | sl _ _ cap blk off arr ty fr g1 g2 g3 g4 g5 => exact .sl0 _ _
  | sl cells n cap blk off arr ty fr hf hb hn ho hv ih =>
    intro v h
    cases h with
    | sl0 a cap => exact .sl0 a cap
    | sl _ _ cap' blk' off' arr' ty' fr' g1 g2 g3 g4 g5 =>
      refine .sl cells n cap' blk' off' arr' ty' fr' g1 g2 g3 g4 fun i c u hc hu => ?_
      obtain ⟨x, hx⟩ : ∃ x, arr[off + i]? = some x := ⟨arr[off + i]'(by have := (List.getElem?_eq_some_iff.1 hc).1; omega), Array.getElem?_eq_getElem _⟩
      exact ih i c x hc hx (g5 i c u hc hu)
  | dp cells o blk off arr ty fr hf hb ho hv ih =>
    intro v h
    cases h with
    | dp _ _ blk' off' arr' ty' fr' g1 g2 g4 g5 =>
      refine .dp cells o blk' off' arr' ty' fr' g1 g2 g4 fun i c u hc hu => ?_
      obtain ⟨x, hx⟩ : ∃ x, arr[off + i]? = some x := ⟨arr[off + i]'(by have := (List.getElem?_eq_some_iff.1 hc).1; omega), Array.getElem?_eq_getElem _⟩
      exact ih i c x hc hx (g5 i c u hc hu)
  | own b off n c sz ex L cap h1 h2 h3 h4 h5 h6 =>
    intro v h
    cases h with
    | own _ _ _ _ _ _ L' cap' g1 g2 g3 g4 g5 g6 =>
      have := hμ _ _ h1
      rw [g1] at this
      cases this
      exact .own b off n c sz ex L cap' h1 g2 g3 g4 g5 g6
  | ptr b off L h1 =>
    intro v h
    cases h with
    | ptr _ _ L' g1 =>
      have := hμ _ _ h1
      rw [g1] at this
      cases this
      exact .ptr b off L h1
  | fn f as bs us vs h1 h2 h3 h4 ih1 ih2 =>
    intro v h
    cases h with
    | fn _ _ _ us' vs' g1 g2 g3 g4 =>
      refine .fn f as bs us' vs' g1 (fun i c u hc hu => ?_) g3 fun i c u hc hu => ?_
      · obtain ⟨x, hx⟩ : ∃ x, us[i]? = some x := ⟨us[i]'(by have := (List.getElem?_eq_some_iff.1 hc).1; omega), Array.getElem?_eq_getElem _⟩
        exact ih1 i c x hc hx (g2 i c u hc hu)
      · obtain ⟨x, hx⟩ : ∃ x, vs[i]? = some x := ⟨vs[i]'(by have := (List.getElem?_eq_some_iff.1 hc).1; omega), Array.getElem?_eq_getElem _⟩
        exact ih2 i c x hc hx (g4 i c u hc hu)
  | ifc t x v0 hx ih =>
    intro v h
    cases h with
    | ifc _ _ u hu => exact .ifc t x u (ih hu)
  | map b L h1 =>
    intro v h
    cases h with
    | map _ L' g1 =>
      have := hμ _ _ h1
      rw [g1] at this
      cases this
      exact .map b L h1
  | loopv b L h1 =>
    intro v h
    cases h with
    | loopv _ L' g1 =>
      have := hμ _ _ h1
      rw [g1] at this
      cases this
      exact .loopv b L h1

theorem LR.back (hμ : ∀ b L, μ b = some L → μ' b = some L) {cs : List AV} {vs0 vs : List Value} (h0 : LR μ F w cs vs0) (h : LR μ' F w' cs vs) : LR μ F w' cs vs := by
  refine ⟨h.1, fun i c v hc hv => ?_⟩
  obtain ⟨x, hx⟩ : ∃ x, vs0[i]? = some x := ⟨vs0[i]'(by have := (List.getElem?_eq_some_iff.1 hc).1; have := h0.1; omega), List.getElem?_eq_getElem _⟩
  exact (h0.2 i c x hc hx).back hμ (h.2 i c v hc hv)

theorem weakT_lr {W : List Nat} {T : Tm} {vs : List Value} (h : LR μ F w T vs) : LR μ F w (weakT W T) vs := by
  refine ⟨by simp [weakT, h.1], fun i c v hc hv => ?_⟩
  unfold weakT at hc
  rw [List.getElem?_map, Option.map_eq_some_iff] at hc
  obtain ⟨p, hp, rfl⟩ := hc
  rw [List.getElem?_zipIdx, Option.map_eq_some_iff] at hp
  obtain ⟨y, hy, rfl⟩ := hp
  split
  · exact .undef v
  · exact h.2 i y v hy hv
end

end Go.Proofs.YtedembbgeljdkaaGreatDoor.Ev
