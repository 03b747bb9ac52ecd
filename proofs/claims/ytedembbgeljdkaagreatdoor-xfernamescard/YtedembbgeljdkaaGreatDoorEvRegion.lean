/-
  THE EVALUATOR's REGIONS are the model's, where the order is the text's.
-/
import Derived.Test.YtedembbgeljdkaaGreatDoorEvCode
namespace Go.Proofs.YtedembbgeljdkaaGreatDoor.Ev
open Go
set_option linter.all false

section
variable {P : Program} {μ : Mu} {F : Nat → Prop} {H : Heap} {w : World} {T : Tm} {a : Act}

theorem put_lr (hT : LR μ F w T a.tmps.toList) (d : Option Nat) {v : AV} {u : Value} (hv : VR μ F w v u) : LR μ F w (putT T d v) (a.put d u).tmps.toList := by
  cases d with
  | none => exact hT
  | some d => simp only [putT, Act.put, Array.toList_setIfInBounds]; exact hT.set d hv

theorem tup_nil {μ : Mu} {F : Nat → Prop} {w : World} : VR μ F w (.tup []) undef := .tup _ _ rfl fun i c v h => by simp at h

theorem wanted_ok (hT : LR μ F w T a.tmps.toList) {ops : Array Oper} {o : Oper} {g : Option (Nat × Bool)} {b : Bool}
    (hg : cGuard ops o.guard = some g) (h : wantedA T g = some b) : Region.wanted o (yielded ops a.tmps) = b := by
  unfold Region.wanted
  cases hgu : o.guard with
  | none => rw [hgu] at hg; cases hg; cases h; rfl
  | some p =>
    obtain ⟨j, want⟩ := p
    rw [hgu] at hg
    simp only [cGuard] at hg
    split at hg
    · cases hg
    rename_i o' ho'
    split at hg
    · cases hg
    rename_i d hd
    cases hg
    simp only [wantedA] at h
    have hy : yielded ops a.tmps j = match a.tmps[d]? with | some (.bool b) => some b | _ => none := by
      unfold yielded
      rw [ho']; simp [hd]; rfl
    simp only [hy]
    split at h
    · rename_i c hc
      cases h
      obtain ⟨v, hv, hr⟩ := hT.get hc
      have : a.tmps[d]? = some v := by simpa using hv
      cases hr
      rw [this]
      simp
    · rename_i hc
      cases h
      obtain ⟨v, hv, hr⟩ := hT.get hc
      have : a.tmps[d]? = some v := by simpa using hv
      cases hr
      rw [this]
      simp
    · cases h

theorem opsA_sound {cal : Cal} (hcal : CalOK P cal) {fence : Fence} {rd : Bool} (hF : FenceOK fence rd) {n : Nat} {ops : Array Oper} {Q : Exit → Act → World → Prop} {T' : Tm} {H' : Heap} {base top : Nat} {tail : List Nat} :
    ∀ (os : List Oper) (rs : List ROp) (i id : Nat) (μ : Mu) (H : Heap) (w : World) (T : Tm) (a : Act), (∀ (k : Nat) (o : Oper), os[k]? = some o → ops[i + k]? = some o) → os.mapM (cROp P ops) = some rs → opsA cal id rs T H = some (T', H') → base ≤ id → id + os.length ≤ top → id + os.length ≤ H.next →
    (∀ j, id ≤ j → j < id + os.length → μ j = none) → LR μ F w T a.tmps.toList → HR P μ F H w →
    (∀ a' w' μ', a'.defers = a.defers → LR μ' F w' T' a'.tmps.toList → HR P μ' F H' w' → Stp (fun b => base ≤ b ∧ b < top) P μ F H w μ' F H' w' → wpOpsIn fence n P ops Q tail a' w') →
    wpOpsIn fence n P ops Q (List.range' i os.length ++ tail) a w := by
  intro os
  induction os with
  | nil =>
    intro rs i id μ H w T a hos hrs hrun _ _ _ _ hT hH hQ
    simp at hrs; subst hrs
    cases hrun
    exact hQ a w μ rfl hT hH (Stp.refl _ _ _ _ _ _)
  | cons o os ih =>
    intro rs i id μ H w T a hos hrs hrun hbase htop hnext hfresh hT hH hQ
    simp only [List.mapM_cons, Option.pure_def, Option.bind_eq_bind, Option.bind_eq_some_iff] at hrs
    obtain ⟨r, hr, rs', hrs', hrs⟩ := hrs
    cases hrs
    have hoi : ops[i]? = some o := hos 0 o rfl
    have hos' : ∀ (k : Nat) (o : Oper), os[k]? = some o → ops[i + 1 + k]? = some o := fun k o h => by
      have := hos (k + 1) o (by simpa using h)
      rwa [show i + (k + 1) = i + 1 + k by omega] at this
    simp only [cROp, Option.map_eq_some_iff] at hr
    obtain ⟨g, hg, hr⟩ := hr
    cases hr
    simp only [List.length_cons] at htop hnext hfresh ⊢
    simp only [opsA] at hrun
    simp only [List.range'_succ, List.cons_append, wpOpsIn, hoi]
    split at hrun
    · rename_i hw
      have hw' := wanted_ok (o := o) hT hg hw
      rw [if_pos hw']
      split at hrun
      · rename_i v H1 hop
        have hcop : cOp P o = some ((cOp P o).getD .bad) := by
          cases hco : cOp P o with
          | some x => rfl
          | none => rw [hco] at hop; simp [opA, pureA, heapA] at hop
        refine opA_sound hcal (I := fun b => b = id) hcop hop hT hH (hfresh id (Nat.le_refl _) (by omega)) (by omega) rfl hF fun u w' μ' hdone => ?_
        refine ih rs' (i + 1) (id + 1) μ' H1 w' _ _ hos' hrs' hrun (by omega) (by omega) (by have := hdone.stp.next; omega) (fun j h1 h2 => ?_) (put_lr (hdone.stp.lr hH hT) _ hdone.val) hdone.heap fun a' w2 μ2 hdef hT2 hH2 hS2 => ?_
        · exact hdone.stp.new j (by omega) (by omega) (hfresh j (by omega) (by omega))
        · refine hQ a' w2 μ2 (hdef.trans ?_) hT2 hH2 ((hdone.stp.mono fun b hb => ?_).trans hS2)
          · cases o.dst <;> rfl
          · subst hb; exact ⟨hbase, by omega⟩
      · cases hrun
    · rename_i hw
      have hw' := wanted_ok (o := o) hT hg hw
      rw [if_neg (by rw [hw']; decide)]
      refine ⟨fun f _ => hF.fn f, ?_⟩
      refine ih rs' (i + 1) (id + 1) μ H w _ _ hos' hrs' hrun (by omega) (by omega) (by omega) (fun j h1 h2 => hfresh j (by omega) (by omega)) (put_lr hT _ tup_nil) hH fun a' w2 μ2 hdef hT2 hH2 hS2 => ?_
      refine hQ a' w2 μ2 (hdef.trans ?_) hT2 hH2 hS2
      cases o.dst <;> rfl
    · cases hrun

theorem HR.bump {H : Heap} (h : HR P μ F H w) (k : Nat) : HR P μ F { H with next := H.next + k } w :=
  ⟨fun b L hb => ⟨Nat.lt_of_lt_of_le (h.dom b L hb).1 (Nat.le_add_right _ _), (h.dom b L hb).2⟩, h.fb, h.ent, h.inj, h.gl⟩

theorem fresh_next {H : Heap} (h : HR P μ F H w) {j : Nat} (hj : H.next ≤ j) : μ j = none := by
  cases hm : μ j with
  | none => rfl
  | some L => have := (h.dom j L hm).1; omega

theorem region_sound {cal : Cal} (hcal : CalOK P cal) {fence : Fence} {rd : Bool} (hF : FenceOK fence rd) {n id : Nat} {ops : Array Oper} {rs : List ROp} {Q : Exit → Act → World → Prop} {T' : Tm} {H' : Heap}
    (hrs : ops.toList.mapM (cROp P ops) = some rs) (hrun : opsA cal H.next rs T { H with next := H.next + rs.length } = some (T', H')) (hT : LR μ F w T a.tmps.toList) (hH : HR P μ F H w)
    (hQ : ∀ a' w' μ', a'.defers = a.defers → LR μ' F w' T' a'.tmps.toList → HR P μ' F H' w' → Stp NoI P μ F H w μ' F H' w' → Q .normal a' w') :
    (Code.region id ops false).wpIn fence n P Q a w := by
  refine wpIn_region ?_
  have hlen : rs.length = ops.toList.length := by
    have key : ∀ (l : List Oper) (rs : List ROp), l.mapM (cROp P ops) = some rs → rs.length = l.length := by
      intro l
      induction l with
      | nil => intro rs h; simp at h; subst h; rfl
      | cons o l ih =>
        intro rs h
        simp only [List.mapM_cons, Option.pure_def, Option.bind_eq_bind, Option.bind_eq_some_iff] at h
        obtain ⟨r, hr, rs', hrs', h⟩ := h
        cases h
        simp [ih rs' hrs']
    exact key _ _ hrs
  have := opsA_sound hcal hF (n := n) (ops := ops) (Q := Q) (base := H.next) (top := H.next + rs.length) (tail := []) ops.toList rs 0 H.next μ _ w T a (fun k o h => by simpa using h) hrs hrun (Nat.le_refl _) (by simp [hlen]) (by simp [hlen]) (fun j h1 _ => fresh_next hH h1) hT (hH.bump _) (fun a' w' μ' hd hT' hH' hS => ?_)
  · rw [List.range_eq_range']; simpa using this
  · refine hQ a' w' μ' hd hT' hH' ⟨hS.mu, hS.fr, hS.size, hS.keep, hS.rw, Nat.le_trans (Nat.le_add_right _ _) hS.next, fun b hb _ hn => hS.new b (Nat.lt_of_lt_of_le hb (Nat.le_add_right _ _)) (by omega) hn, hS.rng, fun b e hb hl _ => hS.old b e hb (Nat.lt_of_lt_of_le hl (Nat.le_add_right _ _)) (by omega), hS.alv, hS.tape, hS.os, hS.out⟩

end
end Go.Proofs.YtedembbgeljdkaaGreatDoor.Ev
