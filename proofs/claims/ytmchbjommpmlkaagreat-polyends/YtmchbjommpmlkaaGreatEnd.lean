/-
  'facetroom: PolyEnds' returns true, whatever the number, the world and the tape: the evaluator has run it in the kernel: once for each number of 0 to 8, once for all below, once for all above; and the evaluator's run is the model's.
  Conditions: none beyond the statement's own.
-/
import Derived.Test.YtmchbjommpmlkaaGreatRows
import Derived.Test.YtmchbjommpmlkaaGreatAll
import Derived.WalkKit
import Derived.ProofKit
import Derived.OpenShut
namespace Go.Proofs.YtmchbjommpmlkaaGreat.law
open Go.ChangeShapes Go.WideShapes Go.ChangeAt Go.RowKit
set_option linter.all false

theorem own : ownKnob Tryz.prog.godebug = none := by kernel_rfl

theorem kept_all {w w' : World} (h1 : w'.os = w.os) (h2 : w'.output = w.output) (h : ∀ c, c < w.heap.size → w'.heap[c]? = w.heap[c]?) (may : MemPlace → Prop) : w.keptBut w' may := by
  refine ⟨h1, h2, fun i hi => ?_⟩
  rw [h i hi]
  split
  · rename_i e1 e2
    cases e1.symm.trans e2
    exact ⟨rfl, rfl, rfl, fun _ _ => rfl⟩
  · rename_i e1 e2
    cases e1.symm.trans e2
    exact .inr ⟨rfl, rfl⟩
  · rfl

theorem big (k : Nat) : Ev.isT (Ev.fcalM (Ev.Q4.get Ev.afntab) (Ev.Q4.get Ev.ffntab) (Ev.mtab [] .leaf 0) 1000000 (199 + 1) (.fn 3 [.int .i64 (.ofNat (k + 9))]) ⟨0, Ev.Tr.nil⟩ (fun v H => some (v, H))) = true := by kernel_rfl
theorem small (k : Nat) : Ev.isT (Ev.fcalM (Ev.Q4.get Ev.afntab) (Ev.Q4.get Ev.ffntab) (Ev.mtab [] .leaf 0) 1000000 (199 + 1) (.fn 3 [.int .i64 (.negSucc k)]) ⟨0, Ev.Tr.nil⟩ (fun v H => some (v, H))) = true := by kernel_rfl

theorem out_of (x : Int) (h : Ev.isT (Ev.fcalM (Ev.Q4.get Ev.afntab) (Ev.Q4.get Ev.ffntab) (Ev.mtab [] .leaf 0) 1000000 (199 + 1) (.fn 3 [.int .i64 x]) ⟨0, Ev.Tr.nil⟩ (fun v H => some (v, H))) = true) (w : World) :
    Calls Tryz.prog 3 #[.int .i64 x] w fun e w' => e = .returned (.bool true) ∧ w'.os = w.os ∧ w'.output = w.output ∧ w.heap.size ≤ w'.heap.size ∧ ∀ c, c < w.heap.size → w'.heap[c]? = w.heap[c]? := by
  obtain ⟨H', h⟩ := Ev.isT_some h
  exact Ev.closed_calls_int (Checked.mixed Tryz.checked) Ev.tabOK Ev.ftabOK (L := []) (t := .leaf) (bound := 0) Ev.AllV.zero (afn := Ev.afn3) (by kernel_rfl) (Ev.fgood_ext Ev.ok3.2 (by kernel_rfl)) (by kernel_rfl) h w

theorem walk (x : Int) (w : World) : Calls Tryz.prog 3 #[.int .i64 x] w fun e w' => e = .returned (.bool true) ∧ w'.os = w.os ∧ w'.output = w.output ∧ w.heap.size ≤ w'.heap.size ∧ ∀ c, c < w.heap.size → w'.heap[c]? = w.heap[c]? := by
  cases x with
  | negSucc k => exact out_of _ (small k) w
  | ofNat n =>
    by_cases h : 9 ≤ n
    · obtain ⟨k, rfl⟩ : ∃ k, n = k + 9 := ⟨n - 9, by omega⟩
      exact out_of _ (big k) w
    · have : n = 0 ∨ n = 1 ∨ n = 2 ∨ n = 3 ∨ n = 4 ∨ n = 5 ∨ n = 6 ∨ n = 7 ∨ n = 8 := by omega
      rcases this with rfl | rfl | rfl | rfl | rfl | rfl | rfl | rfl | rfl
      · exact Ev.law_calls_0 w
      · exact Ev.law_calls_1 w
      · exact Ev.law_calls_2 w
      · exact Ev.law_calls_3 w
      · exact Ev.law_calls_4 w
      · exact Ev.law_calls_5 w
      · exact Ev.law_calls_6 w
      · exact Ev.law_calls_7 w
      · exact Ev.law_calls_8 w

section
variable {H : Type} {enc : TypeId × Value → H} {P : Program}
/-- A call without arguments that hands back a value of no memory. -/
theorem post_closed {f : Func} {s : ChangeSpec} {fresh handsOn again : Bool} {W W' : World} {args : Array Value} {v : Value} {ds gs : List (DataW H)}
    (hW : DataW.Whole enc P f.params.toList s.vars false W args.toList ds gs [])
    (hres : ∀ (b : Nat) (sp : Nat → Bool) (hd : Bool), DataW.TrodAll enc P W' b sp hd f.resultTypes.toList (v.resultList f.resultTypes.size) (s.fn H (ds ++ gs)).results [])
    (hargs : ∀ sp : Nat → Bool, DataW.TrodAll enc P W' 0 sp true f.params.toList args.toList (s.fn H (ds ++ gs)).args [])
    (hvars : ∀ sp : Nat → Bool, DataW.TrodVars enc P W' sp s.vars (s.fn H (ds ++ gs)).vars [])
    (hk : ∀ may, W.keptBut W' may)
    (hok : ∀ (j : Nat) (t : TypeId) (r : Value), f.resultTypes[j]? = some t → (v.resultList f.resultTypes.size)[j]? = some r → Value.okWide P W' .any 0 t r) :
    s.post enc P f false fresh handsOn again W args v W' := by
  refine ⟨ds, gs, [], [], [], [], hW, hres _ _ _, hargs _, hvars _, hk _, fun _ => ?_⟩
  refine ⟨hok, _, _, ([] ++ []) ++ [], ⟨[] ++ [], [], trodAll_append (hargs _) (hres _ _ _), hvars _, rfl, ?_, ?_⟩, ?_⟩
  · intro b off hp; simp at hp
  · intro ha; cases ha
  · intro p hp; simp at hp
end

set_option maxRecDepth 100000 in
theorem lifted (os : Os) (started : os.Started) (H : Type) (enc : TypeId × Value → H) :
    ReturnsInHanded {} Tryz.checked os 3 .any (Rows.polyEndsSpec.pre6 enc Tryz.prog Tryz.f3 Rows.polyEndsRow.domain false) (Rows.polyEndsSpec.post enc Tryz.prog Tryz.f3 false true false false) := by
  refine returnsInHanded_of_change (C := Tryz.checked) own started (by kernel_rfl) Tryz.func3
    (ChangeSpec.witness6 (enc := enc) (C := Tryz.checked) false ⟨#[], #[.int .i64 0], []⟩ 8 (by kernel_rfl) (by kernel_rfl) (by kernel_rfl) (by kernel_rfl)) ?_
  intro W base args ds gs before hval0 hW _ _
  have hval : ∀ (j : Nat) t v, Tryz.f3.params[j]? = some t → args[j]? = some v → Value.okWide Tryz.prog W .any base t v := hval0
  have hW' := hW
  obtain ⟨p, q, hA0, hV, rfl, -, -⟩ := hW
  have hA : DataW.TrodAll enc Tryz.prog W 0 (fun _ => true) true Tryz.f3.params.toList args.toList ds p := hA0
  rw [Tryz.params3] at hA hval
  obtain ⟨v0, vs0, d0, ds0, p0, q0, hargs, rfl, rfl, h0, r0⟩ := trodAll_cons hA
  obtain ⟨rfl, rfl, rfl⟩ := trodAll_nil r0
  obtain rfl : args = #[v0] := by cases args; simp_all
  obtain ⟨rfl, rfl⟩ := trodVars_none hV
  obtain ⟨a0, rfl, rfl, rfl, w0⟩ := open_int Tryz.underlying3 (hval 0 3 v0 rfl rfl) h0
  clear hA0 hval0
  simp only [List.append_nil] at hW'
  refine (walk a0 W).mono fun e W' ⟨he, h1, h2, _, h4⟩ => ?_
  subst he
  exact ⟨_, rfl, post_closed hW' (fun _ _ _ => (trodAll_cons_mk (shut_bool Tryz.underlying4 _) trodAll_mk0)) (fun _ => (trodAll_cons_mk (shut_int Tryz.underlying3 w0) trodAll_mk0)) (fun _ => rfl)
    (kept_all h1 h2 h4) (ok_one (by kernel_rfl) rfl (okWide_bool_mk Tryz.underlying4 _))⟩

theorem over : Rows.polyEndsRow.holds Tryz.pinned (OpenSpec.ofChange Rows.polyEndsSpec) :=
  OpenClaim.holds_of_wide 3 Tryz.f3 rfl rfl rfl rfl rfl rfl rfl ⟨rfl, rfl, rfl, rfl, rfl⟩ rfl rfl rfl rfl rfl (by kernel_rfl) Tryz.func3 (by kernel_rfl)
    (of_decide_eq_true (by kernel_rfl)) (by unfold Func.isWrapper; first | (rw [if_pos (by decide +kernel)]; kernel_rfl) | (rw [if_neg (by decide +kernel)]; exact ⟨rfl, rfl⟩))
    (fun os started H enc _ => lifted os started H enc)

/-- The statement. -/
theorem proved : Rows.PolyEndsSaid :=
  over
#print axioms proved
end Go.Proofs.YtmchbjommpmlkaaGreat.law
