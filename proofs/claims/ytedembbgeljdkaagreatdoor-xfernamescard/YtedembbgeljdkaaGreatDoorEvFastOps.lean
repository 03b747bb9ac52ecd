/-
  THE FAST EVALUATOR's OWN OPERATIONS are the slow one's.
-/
import Derived.Test.YtedembbgeljdkaaGreatDoorEvFast
import Derived.Test.YtedembbgeljdkaaGreatDoorEvRel
import Derived.IntWalk
namespace Go.Proofs.YtedembbgeljdkaaGreatDoor.Ev
open Go
set_option linter.all false

theorem optK_some {α : Type} {o : Option α} {k : α → R} {r : AV × Heap} (h : optK o k = some r) : ∃ v, o = some v ∧ k v = some r := by
  cases o with
  | none => cases h
  | some v => exact ⟨v, rfl, h⟩

theorem avInt_some {v : AV} {k : IntKind → Int → R} {r : AV × Heap} (h : avInt v k = some r) : ∃ a x, v = .int a x ∧ k a x = some r := by
  cases v <;> first | (cases h; done) | exact ⟨_, _, rfl, h⟩

theorem kindK_some {a b : IntKind} {k : R} {r : AV × Heap} (h : kindK a b k = some r) : a = b ∧ k = some r := by
  cases a <;> cases b <;> first | (cases h; done) | exact ⟨rfl, h⟩

theorem boolK_some {b : Bool} {k : R} {r : AV × Heap} (h : @Bool.rec (fun _ => R) none k b = some r) : b = true ∧ k = some r := by
  cases b
  · cases h
  · exact ⟨rfl, h⟩

theorem addI_eq (a b : Int) : addI a b = a + b := by cases a <;> cases b <;> rfl
theorem mulI_eq (a b : Int) : mulI a b = a * b := by cases a <;> cases b <;> rfl
theorem subI_eq (a b : Int) : subI a b = a - b := by
  cases a with
  | negSucc m => rfl
  | ofNat m =>
    cases b with
    | negSucc n => rfl
    | ofNat n =>
      show @Bool.rec (fun _ => Int) (Int.sub (.ofNat m) (.ofNat n)) (.ofNat (Nat.sub m n)) (Nat.ble n m) = _
      cases h : Nat.ble n m with
      | false => rfl
      | true =>
        have hle := Nat.le_of_ble_eq_true h
        show Int.ofNat (m - n) = (m : Int) - (n : Int)
        rw [Int.ofNat_eq_natCast]
        omega
theorem ltI_eq (a b : Int) : ltI a b = decide (a < b) := by
  cases a with
  | ofNat m =>
    cases b with
    | ofNat n =>
      show Nat.ble (Nat.succ m) n = _
      cases h : Nat.ble (Nat.succ m) n with
      | true => have := Nat.le_of_ble_eq_true h; symm; simp; omega
      | false =>
        symm; simp
        have h2 : ¬ (Nat.succ m ≤ n) := fun hle => by rw [Nat.ble_eq_true_of_le hle] at h; cases h
        omega
    | negSucc n => symm; show decide _ = false; simp; omega
  | negSucc m =>
    cases b with
    | ofNat n => symm; show decide _ = true; simp; omega
    | negSucc n =>
      show Nat.ble (Nat.succ n) m = _
      cases h : Nat.ble (Nat.succ n) m with
      | true => have := Nat.le_of_ble_eq_true h; symm; simp; omega
      | false =>
        symm; simp
        have h2 : ¬ (Nat.succ n ≤ m) := fun hle => by rw [Nat.ble_eq_true_of_le hle] at h; cases h
        omega
theorem eqI_eq (a b : Int) : eqI a b = (a == b) := by
  cases a with
  | ofNat m =>
    cases b with
    | ofNat n =>
      show Nat.beq m n = _
      cases h : Nat.beq m n with
      | true => have := Nat.eq_of_beq_eq_true h; subst this; symm; simp
      | false =>
        have h2 : m ≠ n := fun e => by subst e; rw [Nat.beq_refl] at h; cases h
        symm; simp; omega
    | negSucc n => symm; show (Int.ofNat m == Int.negSucc n) = false; simp
  | negSucc m =>
    cases b with
    | ofNat n => symm; show (Int.negSucc m == Int.ofNat n) = false; simp
    | negSucc n =>
      show Nat.beq m n = _
      cases h : Nat.beq m n with
      | true => have := Nat.eq_of_beq_eq_true h; subst this; symm; simp
      | false =>
        have h2 : m ≠ n := fun e => by subst e; rw [Nat.beq_refl] at h; cases h
        symm; simp; omega
theorem notF_eq (b : Bool) : notF b = !b := by cases b <;> rfl

theorem wrapI_eq (k : IntKind) (x : Int) : wrapI k x = k.wrap x := by
  cases k <;> first | rfl | skip
  · cases x with
    | ofNat n =>
      show @Bool.rec (fun _ => Int) (IntKind.wrap .i64 (.ofNat n)) (.ofNat n) (Nat.ble n 9223372036854775807) = _
      cases h : Nat.ble n 9223372036854775807 with
      | false => rfl
      | true =>
        have := Nat.le_of_ble_eq_true h
        exact (IntWalk.i64_in (.ofNat n) (by rw [Int.ofNat_eq_natCast]; omega)).symm
    | negSucc n =>
      show @Bool.rec (fun _ => Int) (IntKind.wrap .i64 (.negSucc n)) (.negSucc n) (Nat.ble n 9223372036854775807) = _
      cases h : Nat.ble n 9223372036854775807 with
      | false => rfl
      | true =>
        have := Nat.le_of_ble_eq_true h
        exact (IntWalk.i64_in (.negSucc n) (by omega)).symm
  · cases x with
    | ofNat n =>
      show Int.ofNat (Nat.mod n 18446744073709551616) = IntKind.wrap .u64 (.ofNat n)
      simp [IntKind.wrap, IntKind.bits, IntKind.signed]
      rfl
    | negSucc n => rfl

/-! ### Pure ones -/

def PVok (f : PV) (op : AOp) : Prop := ∀ (T : Tq) (k : KA) (r : AV × Heap), f T k = some r → ∃ v, pureA (evq T) op = some v ∧ k v = some r

theorem vInt_ok {f : IntKind → Int → Int → AV} {op : BinOp} {x y : Src} (hf : ∀ k a b, binA op .int (.int k a) (.int k b) = some (f k a b)) : PVok (vInt f (srcG x) (srcG y)) (.bin op .int x y) := by
  intro T k r h
  unfold vInt at h
  obtain ⟨a, m, h1, h⟩ := avInt_some h
  obtain ⟨b, n, h2, h⟩ := avInt_some h
  obtain ⟨hab, hk⟩ := kindK_some h
  subst hab
  refine ⟨f a m n, ?_, hk⟩
  have e1 : evq T x = .int a m := h1
  have e2 : evq T y = .int a n := h2
  simp only [pureA, e1, e2]
  exact hf a m n

theorem vAdd_ok {x y : Src} : PVok (vAdd (srcG x) (srcG y)) (.bin .add .int x y) := vInt_ok fun k a b => by simp [binA, binInt, wrapI_eq, addI_eq]
theorem vSub_ok {x y : Src} : PVok (vSub (srcG x) (srcG y)) (.bin .sub .int x y) := vInt_ok fun k a b => by simp [binA, binInt, wrapI_eq, subI_eq]
theorem vMul_ok {x y : Src} : PVok (vMul (srcG x) (srcG y)) (.bin .mul .int x y) := vInt_ok fun k a b => by simp [binA, binInt, wrapI_eq, mulI_eq]
theorem vLss_ok {x y : Src} : PVok (vLss (srcG x) (srcG y)) (.bin .lss .int x y) := vInt_ok fun k a b => by simp [binA, binInt, ltI_eq]
theorem vGtr_ok {x y : Src} : PVok (vGtr (srcG x) (srcG y)) (.bin .gtr .int x y) := vInt_ok fun k a b => by simp [binA, binInt, ltI_eq]
theorem not_lt_eq (a b : Int) : (!decide (b < a)) = decide (a ≤ b) := by
  by_cases h : a ≤ b
  · have : ¬ b < a := by omega
    simp [h]
  · have : b < a := by omega
    simp [this]
theorem vLeq_ok {x y : Src} : PVok (vLeq (srcG x) (srcG y)) (.bin .leq .int x y) := vInt_ok fun k a b => by simp only [binA, binInt, ltI_eq, notF_eq, not_lt_eq, if_true]
theorem vGeq_ok {x y : Src} : PVok (vGeq (srcG x) (srcG y)) (.bin .geq .int x y) := vInt_ok fun k a b => by simp only [binA, binInt, ltI_eq, notF_eq, not_lt_eq, if_true]
theorem vEql_ok {x y : Src} : PVok (vEql (srcG x) (srcG y)) (.bin .eql .int x y) := vInt_ok fun k a b => by simp [binA, binInt, eqI_eq]
theorem vNeq_ok {x y : Src} : PVok (vNeq (srcG x) (srcG y)) (.bin .neq .int x y) := vInt_ok fun k a b => by simp [binA, binInt, eqI_eq, notF_eq, bne]

theorem vLen_ok {x : Src} : PVok (vLen (srcG x)) (.len x) := by
  intro T k r h
  unfold vLen at h
  have e : srcG x T = evq T x := rfl
  rw [e] at h
  simp only [pureA]
  generalize evq T x = v at h ⊢
  cases v <;> first | (cases h; done) | exact ⟨_, rfl, h⟩

theorem vFA_ok {off : Nat} {x : Src} : PVok (vFA off (srcG x)) (.fieldAddr off x) := by
  intro T k r h
  unfold vFA at h
  have e : srcG x T = evq T x := rfl
  rw [e] at h
  simp only [pureA]
  generalize evq T x = v at h ⊢
  cases v <;> first | (cases h; done) | exact ⟨_, rfl, h⟩

theorem nthK_some : ∀ (l : List AV) (n : Nat) (k : KA) (r : AV × Heap), nthK l n k = some r → ∃ v, l[n]? = some v ∧ k v = some r
  | [], n, k, r, h => by cases h
  | a :: l, 0, k, r, h => ⟨a, rfl, h⟩
  | a :: l, n + 1, k, r, h => by
    obtain ⟨v, h1, h2⟩ := nthK_some l n k r h
    exact ⟨v, by simpa using h1, h2⟩

theorem vExt_ok {i : Nat} {x : Src} : PVok (vExt i (srcG x)) (.extract i x) := by
  intro T k r h
  unfold vExt at h
  have e : srcG x T = evq T x := rfl
  rw [e] at h
  simp only [pureA]
  generalize evq T x = v at h ⊢
  cases v <;> first | (cases h; done) | exact nthK_some _ _ _ _ h

theorem condA_some {v : AV} {a b : R} {r : AV × Heap} (h : condA v a b = some r) : (v = .bool true ∧ a = some r) ∨ (v = .bool false ∧ b = some r) := by
  cases v <;> first | (cases h; done) | skip
  rename_i c
  cases c
  · exact .inr ⟨rfl, h⟩
  · exact .inl ⟨rfl, h⟩

theorem vPick_ok {c a b : Src} : PVok (vPick (srcG c) (srcG a) (srcG b)) (.pick c a b) := by
  intro T k r h
  unfold vPick at h
  rcases condA_some h with ⟨hc, h⟩ | ⟨hc, h⟩
  · have hc : evq T c = .bool true := hc
    exact ⟨evq T a, by simp [pureA, hc], h⟩
  · have hc : evq T c = .bool false := hc
    exact ⟨evq T b, by simp [pureA, hc], h⟩

theorem avNat_some {v : AV} {k : Nat → R} {r : AV × Heap} (h : avNat v k = some r) : ∃ n, asN v = some n ∧ k n = some r := by
  cases v <;> first | (cases h; done) | skip
  rename_i kk x
  cases x with
  | ofNat n => exact ⟨n, rfl, h⟩
  | negSucc n => cases h

theorem vIdx_ok {size : Nat} {x y : Src} : PVok (vIdx size (srcG x) (srcG y)) (.indexAddr size x y) := by
  intro T k r h
  unfold vIdx at h
  obtain ⟨i, hi, h⟩ := avNat_some h
  have hi : asN (evq T y) = some i := hi
  have e : srcG x T = evq T x := rfl
  rw [e] at h
  simp only [pureA, hi, Option.bind_eq_bind, Option.bind_some]
  generalize evq T x = v at h ⊢
  cases v <;> first | (cases h; done) | skip
  · obtain ⟨h1, h⟩ := boolK_some h
    have h1 := Nat.le_of_ble_eq_true h1
    exact ⟨_, if_pos (by omega), h⟩
  · obtain ⟨h1, h⟩ := boolK_some h
    obtain ⟨h2, h⟩ := boolK_some h
    have h1 := Nat.le_of_ble_eq_true h1
    have h2 := Nat.eq_of_beq_eq_true h2
    exact ⟨_, if_pos ⟨by omega, h2⟩, h⟩

/-! ### Those of the memory -/

theorem lenF_eq (l : List AV) : lenF l = l.length := by
  induction l with
  | nil => rfl
  | cons a l ih => show Nat.succ (lenF l) = _; rw [ih]; rfl
theorem dropF_eq : ∀ (n : Nat) (l : List AV), dropF n l = l.drop n
  | 0, l => rfl
  | n + 1, [] => by show ([] : List AV) = _; simp
  | n + 1, a :: l => by show dropF n l = _; rw [dropF_eq n l]; rfl
theorem takeF_eq : ∀ (n : Nat) (l : List AV), takeF n l = l.take n
  | 0, l => by show ([] : List AV) = _; simp
  | n + 1, [] => by show ([] : List AV) = _; simp
  | n + 1, a :: l => by show a :: takeF n l = _; rw [takeF_eq n l]; rfl
theorem appF_eq (l m : List AV) : appF l m = l ++ m := by
  induction l with
  | nil => rfl
  | cons a l ih => show a :: appF l m = _; rw [ih]; rfl
theorem oneF_eq (v : AV) : oneF v = v.one := by cases v <;> rfl
theorem allOne_eq (l : List AV) : allOne l = l.all AV.one := by
  induction l with
  | nil => rfl
  | cons a l ih =>
    show @Bool.rec (fun _ => Bool) false (allOne l) (oneF a) = _
    rw [oneF_eq, ih, List.all_cons]
    cases a.one <;> rfl
theorem cellsF_eq (v : AV) : cellsF v = v.cells := by cases v <;> rfl

theorem putCells_some {n o : Nat} {vc cs : List AV} {k : List AV → R} {r : AV × Heap} (h : putCells n o vc cs k = some r) :
    vc.length = n ∧ o + n ≤ cs.length ∧ vc.all AV.one = true ∧ k (cs.take o ++ vc ++ cs.drop (o + n)) = some r := by
  unfold putCells at h
  obtain ⟨h1, h⟩ := boolK_some h
  obtain ⟨h2, h⟩ := boolK_some h
  obtain ⟨h3, h⟩ := boolK_some h
  rw [lenF_eq] at h1 h2
  rw [allOne_eq] at h3
  rw [appF_eq, appF_eq, takeF_eq, dropF_eq, ← List.append_assoc] at h
  exact ⟨Nat.eq_of_beq_eq_true h1, Nat.le_of_ble_eq_true h2, h3, h⟩

theorem entCells_some {e : Ent} {k : List AV → Nat → Bool → R} {r : AV × Heap} (h : entCells e k = some r) : ∃ cs ty rw', e = .cells cs ty rw' ∧ k cs ty rw' = some r := by
  cases e <;> first | (cases h; done) | exact ⟨_, _, _, rfl, h⟩

theorem avLoad_some {v : AV} {H : Heap} {k : KA} {r : AV × Heap} (h : avLoad v H k = some r) : ∃ u, loadA H none v = some u ∧ k u = some r := by
  cases v <;> first | (cases h; done) | skip
  · obtain ⟨u, h1, h2⟩ := nthK_some _ _ _ _ h
    exact ⟨u, h1, h2⟩
  · obtain ⟨e, he, h⟩ := optK_some h
    obtain ⟨cs, ty, rw', hc, h⟩ := entCells_some h
    obtain ⟨u, h1, h2⟩ := nthK_some _ _ _ _ h
    exact ⟨u, by simp only [loadA, he, hc, takeAt, h1], h2⟩

theorem takeK_some {m o : Nat} {cs : List AV} {k : KA} {r : AV × Heap} (h : takeK m cs o k = some r) : ∃ u, takeAt cs o (some m) = some u ∧ k u = some r := by
  unfold takeK at h
  obtain ⟨h1, h⟩ := boolK_some h
  rw [lenF_eq] at h1
  rw [takeF_eq, dropF_eq] at h
  exact ⟨_, if_pos (Nat.le_of_ble_eq_true h1), h⟩

theorem avLoadN_some {v : AV} {m : Nat} {H : Heap} {k : KA} {r : AV × Heap} (h : avLoadN v m H k = some r) : ∃ u, loadA H (some m) v = some u ∧ k u = some r := by
  cases v <;> first | (cases h; done) | skip
  · exact takeK_some h
  · obtain ⟨e, he, h⟩ := optK_some h
    obtain ⟨cs, ty, rw', hc, h⟩ := entCells_some h
    obtain ⟨u, h1, h2⟩ := takeK_some h
    exact ⟨u, by simp only [loadA, he, hc, h1], h2⟩

theorem avStoreN_some {v x : AV} {m : Nat} {H : Heap} {k : Heap → R} {r : AV × Heap} (h : avStoreN v m x H k = some r) : ∃ H', storeA H m v x = some H' ∧ k H' = some r := by
  cases v <;> first | (cases h; done) | skip
  obtain ⟨e, he, h⟩ := optK_some h
  obtain ⟨cs, ty, rw', hc, h⟩ := entCells_some h
  obtain ⟨hr, h⟩ := boolK_some h
  obtain ⟨h1, h2, h3, hk⟩ := putCells_some h
  rw [cellsF_eq] at h1 h3 hk
  subst hc
  subst hr
  exact ⟨_, by simp only [storeA, he]; exact if_pos ⟨h1, h2, h3⟩, hk⟩

theorem setF_eq : ∀ (l : List AV) (n : Nat) (v : AV), setF l n v = l.set n v
  | [], n, v => rfl
  | a :: l, 0, v => rfl
  | a :: l, n + 1, v => by show a :: setF l n v = _; rw [setF_eq l n v]; rfl

theorem cells_of_one {v : AV} (h : v.one = true) : v.cells = [v] := by cases v <;> first | rfl | (simp [AV.one] at h)

theorem avStore_some {v x : AV} {H : Heap} {k : Heap → R} {r : AV × Heap} (h : avStore v x H k = some r) : ∃ H', storeA H 1 v x = some H' ∧ k H' = some r := by
  cases v <;> first | (cases h; done) | skip
  rename_i b o
  obtain ⟨e, he, h⟩ := optK_some h
  obtain ⟨cs, ty, rw', hc, h⟩ := entCells_some h
  obtain ⟨hr, h⟩ := boolK_some h
  obtain ⟨h1, h⟩ := boolK_some h
  obtain ⟨h2, hk⟩ := boolK_some h
  rw [oneF_eq] at h1
  rw [lenF_eq] at h2
  have h2 := Nat.le_of_ble_eq_true h2
  subst hc
  subst hr
  refine ⟨_, ?_, hk⟩
  simp only [storeA, he, cells_of_one h1]
  rw [if_pos ⟨rfl, by omega, by simp [h1]⟩, setF_eq, List.set_eq_take_append_cons_drop, if_pos (by omega)]
  simp

theorem fillK_some {T : Tq} : ∀ (ps : List ((Nat × Nat) × Src)) (cs : List AV) (k : List AV → R) (r : AV × Heap), fillK (ps.map fun q => (q.1, srcG q.2)) T cs k = some r →
    ∃ ds, fillA cs (ps.map fun p => (p.1, evq T p.2)) = some ds ∧ k ds = some r
  | [], cs, k, r, h => ⟨cs, rfl, h⟩
  | ((o, n), x) :: ps, cs, k, r, h => by
    have h : putCells n o (cellsF (evq T x)) cs (fun cs => fillK (ps.map fun q => (q.1, srcG q.2)) T cs k) = some r := h
    obtain ⟨h1, h2, h3, hk⟩ := putCells_some h
    rw [cellsF_eq] at h1 h3 hk
    obtain ⟨ds, e1, e2⟩ := fillK_some ps _ k r hk
    refine ⟨ds, ?_, e2⟩
    simp only [List.map_cons, fillA]
    rw [if_pos ⟨h1, h2, h3⟩]
    exact e1

theorem vBuild_ok {z : List AV} {ps : List ((Nat × Nat) × Src)} : PVok (vbz z (ps.map fun q => (q.1, srcG q.2))) (.build z ps) := by
  intro T k r h
  obtain ⟨ds, h1, h2⟩ := fillK_some ps z _ r h
  exact ⟨.agg ds, by simp only [pureA, h1, Option.bind_eq_bind, Option.bind_some], h2⟩

end Go.Proofs.YtedembbgeljdkaaGreatDoor.Ev
