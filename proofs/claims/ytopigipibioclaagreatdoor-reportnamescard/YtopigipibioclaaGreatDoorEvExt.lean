/- The evaluator, a part. -/
import Derived.Test.YtopigipibioclaaGreatDoorEvFastOK
import Derived.Test.YtopigipibioclaaGreatDoorEvRun
import Derived.Laws.Externs
import Derived.Lib.Bytealg
import Derived.CallsIn
namespace Go.Proofs.YtopigipibioclaaGreatDoor.Ev
open Go
set_option linter.all false
/-! ### Tables -/
section
variable {α : Type} (Good : Nat → α → Prop)
def G0 (f : Nat) : Option α → Prop
 | none => True
 | some a => Good f a
def G1 (f : Nat) (q : Q (Option α)) : Prop := G0 Good (8 * f) q.a ∧ G0 Good (8 * f + 1) q.b ∧ G0 Good (8 * f + 2) q.c ∧ G0 Good (8 * f + 3) q.d ∧ G0 Good (8 * f + 4) q.e ∧ G0 Good (8 * f + 5) q.f ∧ G0 Good (8 * f + 6) q.g ∧ G0 Good (8 * f + 7) q.h
def G2 (f : Nat) (q : Q (Q (Option α))) : Prop := G1 Good (8 * f) q.a ∧ G1 Good (8 * f + 1) q.b ∧ G1 Good (8 * f + 2) q.c ∧ G1 Good (8 * f + 3) q.d ∧ G1 Good (8 * f + 4) q.e ∧ G1 Good (8 * f + 5) q.f ∧ G1 Good (8 * f + 6) q.g ∧ G1 Good (8 * f + 7) q.h
def G3 (f : Nat) (q : Q (Q (Q (Option α)))) : Prop := G2 Good (8 * f) q.a ∧ G2 Good (8 * f + 1) q.b ∧ G2 Good (8 * f + 2) q.c ∧ G2 Good (8 * f + 3) q.d ∧ G2 Good (8 * f + 4) q.e ∧ G2 Good (8 * f + 5) q.f ∧ G2 Good (8 * f + 6) q.g ∧ G2 Good (8 * f + 7) q.h
def G4 (f : Nat) (q : Q (Q (Q (Q (Option α))))) : Prop := G3 Good (8 * f) q.a ∧ G3 Good (8 * f + 1) q.b ∧ G3 Good (8 * f + 2) q.c ∧ G3 Good (8 * f + 3) q.d ∧ G3 Good (8 * f + 4) q.e ∧ G3 Good (8 * f + 5) q.f ∧ G3 Good (8 * f + 6) q.g ∧ G3 Good (8 * f + 7) q.h
theorem mI (f : Nat) : G1 Good f (Q.all none) := ⟨trivial, trivial, trivial, trivial, trivial, trivial, trivial, trivial⟩
theorem l7 (f : Nat) : G2 Good f (Q.all (Q.all none)) := ⟨mI Good _, mI Good _, mI Good _, mI Good _, mI Good _, mI Good _, mI Good _, mI Good _⟩
theorem qN (f : Nat) : G3 Good f (Q.all (Q.all (Q.all none))) := ⟨l7 Good _, l7 Good _, l7 Good _, l7 Good _, l7 Good _, l7 Good _, l7 Good _, l7 Good _⟩
def D8.num : D8 → Nat
 | .d0 => 0 | .d1 => 1 | .d2 => 2 | .d3 => 3 | .d4 => 4 | .d5 => 5 | .d6 => 6 | .d7 => 7
variable {Good}
theorem X4 {f : Nat} {q : Q (Option α)} (h : G1 Good f q) (d : D8) : G0 Good (8 * f + d.num) (Q.at d q) := by
 obtain ⟨h0, h1, h2, h3, h4, h5, a, b⟩ := h
 cases d
 ·exact h0
 ·exact h1
 ·exact h2
 ·exact h3
 ·exact h4
 ·exact h5
 ·exact a
 ·exact b
theorem X3 {f : Nat} {q : Q (Q (Option α))} (h : G2 Good f q) (d : D8) : G1 Good (8 * f + d.num) (Q.at d q) := by
 obtain ⟨h0, h1, h2, h3, h4, h5, a, b⟩ := h
 cases d
 ·exact h0
 ·exact h1
 ·exact h2
 ·exact h3
 ·exact h4
 ·exact h5
 ·exact a
 ·exact b
theorem X2 {f : Nat} {q : Q (Q (Q (Option α)))} (h : G3 Good f q) (d : D8) : G2 Good (8 * f + d.num) (Q.at d q) := by
 obtain ⟨h0, h1, h2, h3, h4, h5, a, b⟩ := h
 cases d
 ·exact h0
 ·exact h1
 ·exact h2
 ·exact h3
 ·exact h4
 ·exact h5
 ·exact a
 ·exact b
theorem X1 {f : Nat} {q : Q (Q (Q (Q (Option α))))} (h : G4 Good f q) (d : D8) : G3 Good (8 * f + d.num) (Q.at d q) := by
 obtain ⟨h0, h1, h2, h3, h4, h5, a, b⟩ := h
 cases d
 ·exact h0
 ·exact h1
 ·exact h2
 ·exact h3
 ·exact h4
 ·exact h5
 ·exact a
 ·exact b
theorem D8.of_num (d : D8) : D8.of d.num = d := by cases d <;> rfl
theorem D8.num_lt (d : D8) : d.num < 8 := by cases d <;> decide
theorem D8.num_of (x : Nat) : (D8.of x).num = x % 8 := by
 have h := D8.of_eq (D8.of_num (D8.of x))
 have := D8.num_lt (D8.of x)
 omega
theorem uq {t : Q (Q (Q (Q (Option α))))} (h : G4 Good 0 t) {f : Nat} {a : α} (hf : Q4.get t f = some a) : Good f a := by
 unfold Q4.get at hf
 cases hb : Nat.ble f 4095 with
 | false => rw [hb] at hf; cases hf
 | true =>
  rw [hb] at hf
  have c := Nat.le_of_ble_eq_true hb
  have b : ∀ u v : Nat, Nat.div u v = u / v := fun _ _ => rfl
  have hf : Q.at (D8.of f) (Q.at (D8.of (f / 8)) (Q.at (D8.of (f / 64)) (Q.at (D8.of (f / 512)) t))) = some a := hf
  have g := X4 (X3 (X2 (X1 h (D8.of (f / 512))) (D8.of (f / 64))) (D8.of (f / 8))) (D8.of f)
  rw [hf] at g
  simp only [D8.num_of] at g
  have e : 8 * (8 * (8 * (8 * 0 + f / 512 % 8) + f / 64 % 8) + f / 8 % 8) + f % 8 = f := by omega
  rw [e] at g
  exact g
end
def gQ (P : Program) (f : Nat) (afn : AFn) : Prop := (∀ e, afn.ext = some e → iB P f e) ∧ ((∀ e, afn.ext = some e → e.code = true) → ∃ fn, P.funcs[f]? = some fn ∧ lD P fn = some afn)
theorem rb {P : Program} {f : Nat} {fn : Func} {afn : AFn} (hf : P.funcs[f]? = some fn) (hc : lD P fn = some afn) (he : afn.ext.isNone = true) : gQ P f afn := by
 refine ⟨fun e h => ?_, fun _ => ⟨fn, hf, hc⟩⟩
 rw [h] at he; cases he
def AFn.coded (a : AFn) : Bool := match a.ext with
 | some (.dfr _) => true
 | some (.rcv _ _) => true
 | _ => false
theorem YR {P : Program} {f : Nat} {fn : Func} (hf : P.funcs[f]? = some fn) (h : (lD P fn).map AFn.coded = some true) : gQ P f ((lD P fn).getD default) := by
 cases hc : lD P fn with
 | none => rw [hc] at h; cases h
 | some a =>
  rw [hc] at h
  simp only [Option.map_some, Option.some.injEq, AFn.coded] at h
  refine ⟨fun e he => ?_, fun _ => ⟨fn, hf, hc⟩⟩
  have he : a.ext = some e := he
  rw [he] at h
  intro H args v H' hx
  cases e <;> simp only at h <;> first | (cases h; done) | skip
  ·unfold lP at hx; cases hx
  ·unfold lP at hx; cases hx
def AFn.keyed (str : Bool) (gs : List Nat) (ty : Nat) (a : AFn) : Bool := match a.ext with
 | some (.keys s g t) => s == str && (decide (g = gs) && Nat.beq t ty)
 | _ => false
theorem amp {P : Program} {f : Nat} {fn : Func} {str : Bool} {gs : List Nat} {ty : Nat} (hf : P.funcs[f]? = some fn) (h : (lD P fn).map (AFn.keyed str gs ty) = some true) (hx : iB P f (.keys str gs ty)) : gQ P f ((lD P fn).getD default) := by
 cases hc : lD P fn with
 | none => rw [hc] at h; cases h
 | some a =>
  rw [hc] at h
  simp only [Option.map_some, Option.some.injEq, AFn.keyed] at h
  refine ⟨fun e he => ?_, fun _ => ⟨fn, hf, hc⟩⟩
  have he : a.ext = some e := he
  rw [he] at h
  cases e <;> simp only at h <;> first | (cases h; done) | skip
  rename_i s g t
  simp only [Bool.and_eq_true, beq_iff_eq, decide_eq_true_eq] at h
  obtain ⟨rfl, rfl, h3⟩ := h
  have h3 := Nat.eq_of_beq_eq_true h3
  subst h3
  exact hx
theorem agh {P : Program} {f : Nat} {afn : AFn} {e : Ext} (he : afn.ext = some e) (hx : e.code = false) (h : iB P f e) : gQ P f afn := by
 refine ⟨fun e' h' => ?_, fun h' => ?_⟩
 ·rw [he] at h'; cases h'; exact h
 ·have := h' e he; rw [hx] at this; cases this
def pD (a : Nat → Option AFn) (m : Nat) (f : Nat) (fn : FFn) : Prop := ∃ afn, a f = some afn ∧ afn.ext = none ∧ fn.nparams = afn.nparams ∧ fn.ntmps = afn.ntmps ∧ afn.ntmps ≤ 512 ∧ afn.nparams ≤ afn.ntmps ∧ fn.results = afn.results ∧ fn.body = po m false afn.ntmps afn.body
/-! ### Add64, Sub64 -/
def akl : Array Value → Sem Value := fun args => do
 let (x, y, b) ← Extern.MathBitsCarry.three "Sub64" args
 pure (Extern.MathBitsCarry.pair ((x + Extern.MathBitsCarry.m64 - y - b) % Extern.MathBitsCarry.m64) (if x < y + b then 1 else 0))
theorem akd {P : Program} (x y b : Nat) (hb : b ≤ 1) (w : World) :
  (akl #[.int .u64 x, .int .u64 y, .int .u64 b]).run P w =
   .ok (.tuple #[.int .u64 (((x + 18446744073709551616 - y - b) % 18446744073709551616 : Nat) : Int), .int .u64 ((if x < y + b then 1 else 0 : Nat) : Int)]) w := by
 have : b = 0 ∨ b = 1 := by omega
 rcases this with rfl | rfl <;> rfl
theorem ahn {μ : Mu} {F : Nat → Prop} {w : World} {vs : List Value} {a b c : Int} {k1 k2 k3 : IntKind} (h : LR μ F w [.int k1 a, .int k2 b, .int k3 c] vs) : vs = [.int k1 a, .int k2 b, .int k3 c] := by
 have hl := h.1
 match vs, hl with
 | [x, y, z], _ =>
  have h1 := h.2 0 _ x rfl rfl
  have h2 := h.2 1 _ y rfl rfl
  have h3 := h.2 2 _ z rfl rfl
  cases h1; cases h2; cases h3; rfl
theorem aj4 {P : Program} {μ : Mu} {F : Nat → Prop} {H : Heap} {w : World} {v : AV} {u : Value} (hH : HR P μ F H w) (hv : VR μ F w v u) : Done fB P μ F H w v H u w μ :=
 ⟨hv, hH, Stp.refl _ _ _ _ _ _⟩
theorem xA {H H' : Heap} {args : List AV} {v : AV} (h : lP H .add64 args = some (v, H')) : ∃ x y c : Nat, args = [.int .u64 (.ofNat x), .int .u64 (.ofNat y), .int .u64 (.ofNat c)] ∧ c ≤ 1 ∧ v = .tup [.int .u64 (.ofNat ((x + y + c) % 2 ^ 64)), .int .u64 (.ofNat ((x + y + c) / 2 ^ 64))] ∧ H' = H := by
 unfold lP at h
 split at h
 all_goals first | contradiction | skip
 ·split at h
  ·rename_i x y c _ hc
   cases h
   exact ⟨x, y, c, rfl, hc, rfl, rfl⟩
  ·cases h
 all_goals cases h
theorem u4 {H H' : Heap} {args : List AV} {v : AV} (h : lP H .sub64 args = some (v, H')) : ∃ x y c : Nat, args = [.int .u64 (.ofNat x), .int .u64 (.ofNat y), .int .u64 (.ofNat c)] ∧ c ≤ 1 ∧ v = .tup [.int .u64 (.ofNat ((x + 2 ^ 64 - y - c) % 2 ^ 64)), .int .u64 (.ofNat (if x < y + c then 1 else 0))] ∧ H' = H := by
 unfold lP at h
 split at h
 all_goals first | contradiction | skip
 ·split at h
  ·rename_i x y c _ hc
   cases h
   exact ⟨x, y, c, rfl, hc, rfl, rfl⟩
  ·cases h
 all_goals cases h
theorem aoy {μ : Mu} {F : Nat → Prop} {w : World} (a b : Int) : VR μ F w (.tup [.int .u64 a, .int .u64 b]) (.tuple #[.int .u64 a, .int .u64 b]) := by
 refine .tup _ _ rfl fun i c' u hi c => ?_
 have : i = 0 ∨ i = 1 ∨ 2 ≤ i := by omega
 rcases this with rfl | rfl | h2
 ·simp at hi c; subst hi; subst c; exact .int _ _
 ·simp at hi c; subst hi; subst c; exact .int _ _
 ·rw [List.getElem?_eq_none (by simpa using h2)] at hi; cases hi
theorem ald {P : Program} {f : Nat} {fn : Func} (hf : P.funcs[f]? = some fn) (h1 : (fn.name == "runtime.NumGoroutine") = false) (h2 : fn.body.isNone = true) (h3 : Extern.findNext fn = none) (h4 : Extern.find fn = some add64Entry) : iB P f .add64 := by
 intro H args v H' h μ F w vs fence rd n hF hH hl
 obtain ⟨x, y, c, rfl, hc, rfl, rfl⟩ := xA h
 have := ahn hl
 subst this
 have key : (add64Entry #[.int .u64 (.ofNat x), .int .u64 (.ofNat y), .int .u64 (.ofNat c)]).run P w = .ok (.tuple #[.int .u64 (.ofNat ((x + y + c) % 2 ^ 64)), .int .u64 (.ofNat ((x + y + c) / 2 ^ 64))]) w := by
  refine (run_add64 (x : Int) (y : Int) (c : Int) (by omega) (by omega) (by omega) (by omega) w).trans ?_
  have e1 : ((x : Int) + y + c) % 18446744073709551616 = Int.ofNat ((x + y + c) % 2 ^ 64) := by rw [Int.ofNat_eq_natCast]; omega
  have e2 : ((x : Int) + y + c) / 18446744073709551616 = Int.ofNat ((x + y + c) / 2 ^ 64) := by rw [Int.ofNat_eq_natCast]; omega
  rw [e1, e2]
 rw [run_callFunc_extern hf h1 h2 h3 h4, key]
 exact ⟨μ, aj4 hH (aoy _ _)⟩
theorem aj7 {P : Program} {f : Nat} {fn : Func} (hf : P.funcs[f]? = some fn) (h1 : (fn.name == "runtime.NumGoroutine") = false) (h2 : fn.body.isNone = true) (h3 : Extern.findNext fn = none) (h4 : Extern.find fn = some akl) : iB P f .sub64 := by
 intro H args v H' h μ F w vs fence rd n hF hH hl
 obtain ⟨x, y, c, rfl, hc, rfl, rfl⟩ := u4 h
 have := ahn hl
 subst this
 have key : (akl #[.int .u64 (.ofNat x), .int .u64 (.ofNat y), .int .u64 (.ofNat c)]).run P w = .ok (.tuple #[.int .u64 (.ofNat ((x + 2 ^ 64 - y - c) % 2 ^ 64)), .int .u64 (.ofNat (if x < y + c then 1 else 0))]) w :=
  akd x y c hc w
 rw [run_callFunc_extern hf h1 h2 h3 h4, key]
 exact ⟨μ, aj4 hH (aoy _ _)⟩
/-! ### CountString, IndexByteString -/
/-! ### A law without arguments -/
def nG (w : World) : Prop := ∀ g cs, ke g = some cs → VR (fun _ => none) (fun c => (ke c).isSome = true) w (.dp cs 0) (.pointer (some ⟨g, 0, none⟩))
theorem re {P : Program} {w : World} (hG : nG w) : HR P (fun _ => none) (fun c => (ke c).isSome = true) (Heap.nil 0) w := by
 refine ⟨fun b L h => (by cases h), fun c h => ?_, fun b e h => ?_, fun b b' e e' L L' h => ?_, hG⟩
 ·cases hc : ke c with
  | none => rw [hc] at h; cases h
  | some cs =>
   have := hG c cs hc
   cases this with
   | dp _ _ _ _ _ _ _ _ hb _ _ => exact (Array.getElem?_eq_some_iff.1 hb).1
 ·rw [Tr.nil_get] at h; cases h
 ·rw [Tr.nil_get] at h; cases h
end Go.Proofs.YtopigipibioclaaGreatDoor.Ev
