/-
  THE EVALUATOR's PURE OPERATIONS are the model's: each answers, of operands that are so, what is so.
-/
import Derived.Test.YtedembbgeljdkaaGreatDoorEvRel
namespace Go.Proofs.YtedembbgeljdkaaGreatDoor.Ev
open Go
set_option linter.all false

section
variable {P : Program} {μ : Mu} {F : Nat → Prop} {w : World} {T : Tm} {a : Act}

theorem oneAV_vr {v : Value} {x : AV} (h : oneAV v = some x) : VR μ F w x v := by
  unfold oneAV at h
  split at h <;> first | (cases h; done) | skip
  · cases h; exact .bool _
  · cases h; exact .int _ _
  · cases h; exact .str _
  · cases h; exact .nilPtr
  · cases h; exact .nilSl
  · cases h; exact .nilMap
  · cases h; exact .nilFn
  · cases h; exact .nilIf
  · split at h
    · rename_i hz
      cases h
      exact .fn _ _ _ _ _ hz.1.symm (fun i c v h => by simp at h) hz.2.symm (fun i c v h => by simp at h)
    · cases h

theorem mapM_lr : ∀ {l : List Value} {cs : List AV}, l.mapM oneAV = some cs → LR μ F w cs l
  | [], cs, h => by simp at h; subst h; exact LR.nil
  | v :: l, cs, h => by
    simp only [List.mapM_cons, Option.pure_def, Option.bind_eq_bind, Option.bind_eq_some_iff] at h
    obtain ⟨x, hx, xs, hxs, h⟩ := h
    cases h
    exact LR.cons (oneAV_vr hx) (mapM_lr hxs)

theorem oneAV_one {v : Value} {x : AV} (h : oneAV v = some x) : x.one = true := by
  unfold oneAV at h
  split at h <;> first | (cases h; done) | (cases h; rfl) | skip
  split at h <;> first | (cases h; done) | (cases h; rfl)

theorem mapM_one : ∀ {l : List Value} {cs : List AV}, l.mapM oneAV = some cs → cs.all AV.one = true
  | [], cs, h => by simp at h; subst h; rfl
  | v :: l, cs, h => by
    simp only [List.mapM_cons, Option.pure_def, Option.bind_eq_bind, Option.bind_eq_some_iff] at h
    obtain ⟨x, hx, xs, hxs, h⟩ := h
    cases h
    simp [oneAV_one hx, mapM_one hxs]

theorem constAV_vr {v : Value} {x : AV} (h : constAV v = some x) : VR μ F w x v := by
  unfold constAV at h
  split at h
  · simp only [Option.bind_eq_bind, Option.bind_eq_some_iff] at h
    obtain ⟨cs, hcs, h⟩ := h
    cases h
    have hl := mapM_lr (μ := μ) (F := F) (w := w) hcs
    exact .agg _ _ (by simpa using hl.1) fun i c v h1 h2 => hl.2 i c v h1 (by simpa using h2)
  · split at h
    · rename_i hz
      cases h
      exact .tup _ _ hz.symm fun i c v h => by simp at h
    · cases h
  · exact oneAV_vr h

theorem getT_vr (hT : LR μ F w T a.tmps.toList) (t : Nat) : VR μ F w (getT T t) (a.tmps.getD t undef) := by
  unfold getT
  cases hc : T[t]? with
  | none => rw [List.getD_eq_getElem?_getD, hc]; exact .undef _
  | some c =>
    obtain ⟨v, hv, hr⟩ := hT.get hc
    have : a.tmps[t]? = some v := by simpa using hv
    rw [List.getD_eq_getElem?_getD, hc]
    simp [this]
    exact hr

theorem src_vr {x : Operand} {s : Src} (hT : LR μ F w T a.tmps.toList) (h : cSrc x = some s) : VR μ F w (s.ev T) (a.eval x) := by
  cases x with
  | tmp t => cases h; exact getT_vr hT t
  | const v =>
    simp only [cSrc, Option.map_eq_some_iff] at h
    obtain ⟨y, hy, h⟩ := h
    cases h
    exact constAV_vr hy
  | global g => cases h
  | func f => cases h; exact .fn _ _ _ _ _ rfl (fun i c v h => by simp at h) rfl (fun i c v h => by simp at h)

theorem srcs_lr (hT : LR μ F w T a.tmps.toList) : ∀ {l : List Operand} {ss : List Src}, l.mapM cSrc = some ss → LR μ F w (ss.map (Src.ev T)) (l.map a.eval)
  | [], ss, h => by simp at h; subst h; exact LR.nil
  | x :: l, ss, h => by
    simp only [List.mapM_cons, Option.pure_def, Option.bind_eq_bind, Option.bind_eq_some_iff] at h
    obtain ⟨s, hs, ss', hss, h⟩ := h
    cases h
    exact LR.cons (src_vr hT hs) (srcs_lr hT hss)

theorem cells_lr {x : AV} {v : Value} (h : VR μ F w x v) (hone : x.cells.all AV.one = true) : LR μ F w x.cells v.cells.toList := by
  cases h with
  | agg cs vs hl hv => exact LR.of_agg hl hv
  | undef v => simp [AV.cells, AV.one] at hone
  | tup cs vs hl hv => simp [AV.cells, AV.one] at hone
  | bool b => exact LR.cons (.bool b) LR.nil
  | int k n => exact LR.cons (.int k n) LR.nil
  | str s => exact LR.cons (.str s) LR.nil
  | nilPtr => exact LR.cons .nilPtr LR.nil
  | nilSl => exact LR.cons .nilSl LR.nil
  | nilFn => exact LR.cons .nilFn LR.nil
  | nilIf => exact LR.cons .nilIf LR.nil
  | nilMap => exact LR.cons .nilMap LR.nil
  | sl0 a cap => exact LR.cons (.sl0 a cap) LR.nil
  | sl cells n cap blk off arr ty fr h1 h2 h3 h4 h5 => exact LR.cons (.sl cells n cap blk off arr ty fr h1 h2 h3 h4 h5) LR.nil
  | dp cells o blk off arr ty fr h1 h2 h4 h5 => exact LR.cons (.dp cells o blk off arr ty fr h1 h2 h4 h5) LR.nil
  | own b off n c sz ex L cap h1 h2 h3 h4 h5 h6 => exact LR.cons (.own b off n c sz ex L cap h1 h2 h3 h4 h5 h6) LR.nil
  | ptr b off L h => exact LR.cons (.ptr b off L h) LR.nil
  | fn f as bs us vs h1 h2 h3 h4 => exact LR.cons (.fn f as bs us vs h1 h2 h3 h4) LR.nil
  | ifc t x v h => exact LR.cons (.ifc t x v h) LR.nil
  | map b L h => exact LR.cons (.map b L h) LR.nil
  | loopv b L h => exact LR.cons (.loopv b L h) LR.nil

theorem LR.one {as : List AV} {vs : List Value} (h : LR μ F w as vs) (h1 : as.all AV.one = true) : ∀ v ∈ vs, v.oneCell' = true := by
  intro v hv
  obtain ⟨i, hi, rfl⟩ := List.mem_iff_getElem.1 hv
  have hi' : i < as.length := h.1 ▸ hi
  have := h.2 i as[i] vs[i] (List.getElem?_eq_getElem _) (List.getElem?_eq_getElem _)
  exact this.oneCell (by rw [List.all_eq_true] at h1; exact h1 _ (List.getElem_mem _))

theorem asN_int {x : AV} {v : Value} {n : Nat} (h : asN x = some n) (hv : VR μ F w x v) : ∃ k, v = .int k (n : Int) := by
  unfold asN at h
  split at h
  · cases h
    cases hv with
    | int k n => exact ⟨_, rfl⟩
  · cases h

/-! ### Filling -/

theorem foldl_sets : ∀ (l : List Value) (off : Nat) (cs : Array Value), off + l.length ≤ cs.size →
    ((l.zipIdx).foldl (fun (cs : Array Value) (p : Value × Nat) => cs.setIfInBounds (off + p.2) p.1) cs).toList = cs.toList.take off ++ l ++ cs.toList.drop (off + l.length) := by
  intro l off cs h
  have key : ∀ (l : List Value) (k : Nat) (cs : Array Value), off + k + l.length ≤ cs.size →
      ((l.zipIdx k).foldl (fun (cs : Array Value) (p : Value × Nat) => cs.setIfInBounds (off + p.2) p.1) cs).toList = cs.toList.take (off + k) ++ l ++ cs.toList.drop (off + k + l.length) := by
    intro l
    induction l with
    | nil => intro k cs h; simp
    | cons v l ih =>
      intro k cs h
      simp only [List.length_cons] at h
      simp only [List.zipIdx_cons, List.foldl_cons]
      rw [ih (k + 1) _ (by simp; omega)]
      simp only [Array.toList_setIfInBounds, List.length_cons]
      have hlt : off + k < cs.toList.length := by rw [Array.length_toList]; omega
      have h1 : (cs.toList.set (off + k) v).take (off + (k + 1)) = cs.toList.take (off + k) ++ [v] := by
        rw [← Nat.add_assoc, List.take_add_one, List.take_set_of_le (Nat.le_refl _), List.getElem?_set_self hlt]; rfl
      have h2 : (cs.toList.set (off + k) v).drop (off + (k + 1) + l.length) = cs.toList.drop (off + k + (l.length + 1)) := by
        rw [List.drop_set_of_lt (by omega)]; congr 1; omega
      rw [h1, h2]; simp
  simpa using key l 0 cs (by simpa using h)

theorem fill_lr (hT : LR μ F w T a.tmps.toList) (place : Nat → Option (Nat × Nat)) : ∀ (parts : List (Nat × Operand)) (ps : List ((Nat × Nat) × Src)) (z : List AV) (zc : Array Value) (cs : List AV),
    (parts.mapM fun (p : Nat × Operand) => (do some ((← place p.1), (← cSrc p.2)) : Option ((Nat × Nat) × Src))) = some ps → LR μ F w z zc.toList → fillA z (ps.map fun p => (p.1, p.2.ev T)) = some cs →
    ∃ vs, Instr.fill place zc (parts.map fun p => (p.1, a.eval p.2)) = some vs ∧ LR μ F w cs vs.toList := by
  intro parts
  induction parts with
  | nil =>
    intro ps z zc cs h hz hf
    simp at h; subst h
    simp [fillA] at hf; subst hf
    exact ⟨zc, rfl, hz⟩
  | cons p parts ih =>
    intro ps z zc cs h hz hf
    simp only [List.mapM_cons, Option.pure_def, Option.bind_eq_bind, Option.bind_eq_some_iff] at h
    obtain ⟨q, ⟨pl, hpl, s, hs, hq⟩, qs, hqs, h⟩ := h
    cases h; cases hq
    simp only [List.map_cons, fillA] at hf
    split at hf
    · rename_i hc
      obtain ⟨h1, h2, h3⟩ := hc
      have hv := src_vr hT hs
      have hl := cells_lr hv h3
      have hsz : (a.eval p.2).cells.size = pl.2 := by have := hl.1; simp at this; omega
      have hzl := hz.1
      simp only [Array.length_toList] at hzl
      obtain ⟨vs, hvs, hr⟩ := ih qs _ (((a.eval p.2).cells.zipIdx.foldl (fun cs (c, j) => cs.setIfInBounds (pl.1 + j) c) zc)) cs hqs (by
        have e := foldl_sets (a.eval p.2).cells.toList pl.1 zc (by simp; omega)
        rw [← Array.toList_zipIdx, Array.foldl_toList] at e
        rw [e]
        refine LR.append (LR.append (hz.take _) hl) ?_
        have : pl.1 + (a.eval p.2).cells.toList.length = pl.1 + pl.2 := by simp [hsz]
        rw [this]
        exact hz.drop _) hf
      refine ⟨vs, ?_, hr⟩
      simp only [List.map_cons, Instr.fill, hpl]
      rw [if_neg (by simp; omega)]
      exact hvs
    · cases hf

end
end Go.Proofs.YtedembbgeljdkaaGreatDoor.Ev
