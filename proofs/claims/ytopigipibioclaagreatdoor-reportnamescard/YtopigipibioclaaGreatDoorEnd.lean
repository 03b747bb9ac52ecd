/-
  'facetroom: ReportNames' returns true, whatever the world and the tape, where the listed variables hold what the program's text lays (the card): the evaluator has run it once, in the kernel, and the evaluator's run is the model's.
  Conditions: none beyond the statement's own.
-/
import Derived.Test.YtopigipibioclaaGreatDoorCards
import Derived.Test.YtopigipibioclaaGreatDoorTz
import Derived.Test.YtopigipibioclaaGreatDoorWit
import Derived.Test.YtopigipibioclaaGreatDoorAll
import Derived.Test.YtopigipibioclaaGreatDoorGw
import Derived.Test.YtopigipibioclaaGreatDoorJf
import Derived.WalkKit
import Derived.ProofKit
import Derived.OpenShut
import Derived.MakeChecks
import Derived.LaidMore
import Derived.Lay
import Derived.SevenTiedAt
namespace Go.Proofs.YtopigipibioclaaGreatDoor.law
open Go.ChangeShapes Go.WideShapes Go.ChangeAt Go.RowKit
set_option linter.all false

theorem own : ownKnob Tryz.prog.godebug = none := by kernel_rfl

theorem rQ {w w' : World} (h1 : w'.os = w.os) (h2 : w'.output = w.output) (h : ∀ c, c < w.heap.size → w'.heap[c]? = w.heap[c]?) (may : MemPlace → Prop) : w.keptBut w' may := by
  refine ⟨h1, h2, fun i hi => ?_⟩
  rw [h i hi]
  split
  · rename_i e1 e2
    cases e1.symm.trans e2
    exact ⟨rfl, rfl, rfl, fun _ _ => rfl⟩
  · rename_i e1 e2
    cases e1.symm.trans e2
    exact .inr ⟨rfl, rfl⟩
  · rfl

section
variable {H : Type} {enc : TypeId × Value → H} {P : Program}
/-- A call without arguments that hands back a value of no memory. -/
theorem mR {f : Func} {s : ChangeSpec} {fresh handsOn again : Bool} {W W' : World} {args : Array Value} {v : Value} {ds gs : List (DataW H)}
    (hW : DataW.Whole enc P f.params.toList s.vars false W args.toList ds gs [])
    (hres : ∀ (b : Nat) (sp : Nat → Bool) (hd : Bool), DataW.TrodAll enc P W' b sp hd f.resultTypes.toList (v.resultList f.resultTypes.size) (s.fn H (ds ++ gs)).results [])
    (hargs : ∀ sp : Nat → Bool, DataW.TrodAll enc P W' 0 sp true f.params.toList args.toList (s.fn H (ds ++ gs)).args [])
    (hvars : ∀ sp : Nat → Bool, DataW.TrodVars enc P W' sp s.vars (s.fn H (ds ++ gs)).vars [])
    (hk : ∀ may, W.keptBut W' may)
    (hok : ∀ (j : Nat) (t : TypeId) (r : Value), f.resultTypes[j]? = some t → (v.resultList f.resultTypes.size)[j]? = some r → Value.okWide P W' .any 0 t r) :
    s.post enc P f false fresh handsOn again W args v W' := by
  refine ⟨ds, gs, [], [], [], [], hW, hres _ _ _, hargs _, hvars _, hk _, fun _ => ?_⟩
  refine ⟨hok, _, _, ([] ++ []) ++ [], ⟨[] ++ [], [], trodAll_append (hargs _) (hres _ _ _), hvars _, rfl, ?_, ?_⟩, ?_⟩
  · intro b off hp; simp at hp
  · intro ha; cases ha
  · intro p hp; simp at hp
end

set_option maxRecDepth 100000 in
theorem zr (os : Os) (started : os.Started) (H : Type) (enc : TypeId × Value → H) :
    ReturnsInHanded {} Tryz.checked os 3 .any (fun w args => (Rows.reportNamesSpec.pre enc Tryz.prog Tryz.f3 Rows.reportNamesRow.domain false w args ∧ laidMetH Tryz.prog Rows.reportNamesRow.laid w) ∧ sizedMet enc Tryz.prog Tryz.f3 (OpenSpec.ofChange Rows.reportNamesSpec) false w args)
      (Rows.reportNamesSpec.post enc Tryz.prog Tryz.f3 false true false false) := by
  refine returnsInHanded_of_change_and (C := Tryz.checked) (X := fun w _ => laidMetH Tryz.prog Rows.reportNamesRow.laid w) (fun _ _ _ hh h => h.of_heap hh) own started (by kernel_rfl) Tryz.func3
    (ChangeSpec.witness_shaped (enc := enc) (C := Tryz.checked) (os := os) (X := fun w _ => laidMetH Tryz.prog Rows.reportNamesRow.laid w) false (World.laidAll Tryz.prog os Rows.reportNamesRow.laid) #[] 8 (World.laidAll_os _ _ _)
      (yE os) (a6 os) (a7 os enc) (a8 os enc) (met os)) ?_
  intro W base args ds gs before _ hW _ _ hL _
  have hW' := hW
  obtain ⟨p, q, hA0, hV, rfl, -, -⟩ := hW
  have hA : DataW.TrodAll enc Tryz.prog W 0 (fun _ => true) true Tryz.f3.params.toList args.toList ds p := hA0
  rw [Tryz.params3] at hA
  obtain ⟨rfl, rfl, rfl⟩ := trodAll_none hA
  obtain ⟨rfl, rfl⟩ := trodVars_none hV
  clear hA0
  simp only [List.append_nil] at hW'
  refine (Ev.law_calls W (Ev.globW hL)).mono fun e W' ⟨he, h1, h2, _, h4⟩ => ?_
  subst he
  exact ⟨_, rfl, mR hW' (fun _ _ _ => (trodAll_cons_mk (shut_bool Tryz.underlying4 _) trodAll_mk0)) (fun _ => rfl) (fun _ => rfl)
    (rQ h1 h2 h4) (ok_one (by kernel_rfl) rfl (okWide_bool_mk Tryz.underlying4 _))⟩

theorem zo : Rows.reportNamesRow.holds Tryz.pinned (OpenSpec.ofChange Rows.reportNamesSpec) :=
  OpenClaim.holds_of_wide 3 Tryz.f3 rfl rfl rfl rfl rfl rfl rfl ⟨rfl, rfl, rfl, rfl, rfl⟩ rfl rfl rfl rfl rfl Jf.go3 Tryz.func3 Jf.facts
    (of_decide_eq_true (by kernel_rfl)) (by unfold Func.isWrapper; first | (rw [if_pos (by decide +kernel)]; kernel_rfl) | (rw [if_neg (by decide +kernel)]; exact ⟨rfl, rfl⟩))
    (fun os started H enc _ => zr os started H enc)

/-- No parameter wants a stand-in; the program's own looks are off: what the card asks. -/
theorem plain (f : FuncId) (fn : Func) (hf : Tryz.pinned.checked.prog.funcNamed "facetroom/facetroomlaw31.ReportNames" = some f) (hfn : Tryz.pinned.checked.prog.funcs[f]? = some fn) :
    true = Tryz.pinned.checked.prog.looks [] ∧ ∀ (j : Nat) t, fn.params[j]? = some t → Tryz.pinned.checked.prog.wantsStandIn t = false := by
  obtain rfl : f = 3 := Option.some.inj ((show Tryz.prog.funcNamed "facetroom/facetroomlaw31.ReportNames" = some 3 by kernel_rfl).symm.trans hf) |>.symm
  obtain rfl : fn = Tryz.f3 := (Option.some.inj (Tryz.func3.symm.trans hfn)).symm
  refine ⟨by kernel_rfl, fun j t ht => ?_⟩
  rw [Tryz.params3] at ht
  simp at ht

/-- The statement. -/
theorem proved : Rows.ReportNamesCardSaid :=
  Claim7.holds_tied_plain_at .later [] _ _ _ _ zo (fun _ h => by cases h) (by kernel_rfl) (fun _ h => by cases h) vn rfl ⟨rfl, rfl⟩ (by kernel_rfl) rfl plain Jf.goes_eq
#print axioms proved
end Go.Proofs.YtopigipibioclaaGreatDoor.law
