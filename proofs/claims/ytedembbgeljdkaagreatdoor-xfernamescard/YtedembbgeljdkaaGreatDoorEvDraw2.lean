/-
  REGIONS WHOSE ORDER IS OPEN: which operations are there when.
-/
import Derived.Test.YtedembbgeljdkaaGreatDoorEvDraw
namespace Go.Proofs.YtedembbgeljdkaaGreatDoor.Ev
open Go
set_option linter.all false

def cnt (S : Nat → Bool) : Nat → Nat
  | 0 => 0
  | n + 1 => cnt S n + (if S n = true then 0 else 1)

def add (S : Nat → Bool) (i : Nat) (j : Nat) : Bool := if j = i then true else S j

theorem cnt_congr {S S' : Nat → Bool} : ∀ (n : Nat), (∀ j, j < n → S j = S' j) → cnt S n = cnt S' n
  | 0, _ => rfl
  | n + 1, h => by simp only [cnt]; rw [cnt_congr n (fun j hj => h j (by omega)), h n (by omega)]
theorem cnt_add {S : Nat → Bool} {i : Nat} (hS : S i = false) : ∀ (n : Nat), i < n → cnt (add S i) n + 1 = cnt S n
  | 0, h => by omega
  | n + 1, h => by
    simp only [cnt]
    by_cases e : i = n
    · subst e
      rw [cnt_congr (S := add S i) (S' := S) i (fun j hj => by simp [add]; omega)]
      simp [add, hS]
    · have := cnt_add hS n (by omega)
      have : add S i n = S n := by simp [add]; omega
      rw [this]; omega
theorem cnt_zero {S : Nat → Bool} : ∀ (n : Nat), cnt S n = 0 → ∀ j, j < n → S j = true
  | 0, _, j, h => by omega
  | n + 1, h0, j, h => by
    simp only [cnt] at h0
    by_cases e : j = n
    · subst e
      cases hS : S j with
      | true => rfl
      | false => rw [hS] at h0; simp at h0
    · exact cnt_zero n (by omega) j (by omega)
theorem cnt_all {S : Nat → Bool} : ∀ (n : Nat), (∀ j, j < n → S j = false) → cnt S n = n
  | 0, _ => rfl
  | n + 1, h => by simp only [cnt]; rw [cnt_all n (fun j hj => h j (by omega)), h n (by omega)]; simp

section
variable (l : List DI) (T0 : Tm) (s : DS)

def dstOf (i : Nat) : Option Nat := (l.getD i default).dst
def prOf (i : Nat) : List Nat := (l.getD i default).preds
def clOf (i : Nat) : Nat := (l.getD i default).cls

def tv (S : Nat → Bool) : Nat → Nat → AV
  | 0, t => getT T0 t
  | n + 1, t => if S n = true ∧ dstOf l n = some t then s.Vs.getD n .undef else tv S n t

variable {l T0 s}

theorem tv_congr {S S' : Nat → Bool} {t : Nat} : ∀ (n : Nat), (∀ j, j < n → S j = S' j) → tv l T0 s S n t = tv l T0 s S' n t
  | 0, _ => rfl
  | n + 1, h => by simp only [tv]; rw [tv_congr n (fun j hj => h j (by omega)), h n (by omega)]

theorem tv_add {S : Nat → Bool} {i t : Nat} (hS : S i = false) : ∀ (n : Nat), i < n → (∀ j, i < j → j < n → S j = true → dstOf l i ≠ none → dstOf l i ≠ dstOf l j) →
    tv l T0 s (add S i) n t = if dstOf l i = some t then s.Vs.getD i .undef else tv l T0 s S n t
  | 0, h, _ => by omega
  | n + 1, h, hd => by
    simp only [tv]
    by_cases e : i = n
    · subst e
      rw [tv_congr (S := add S i) (S' := S) i (fun j hj => by simp [add]; omega)]
      simp [add, hS]
    · have h1 : add S i n = S n := by simp [add]; omega
      rw [h1, tv_add hS n (by omega) (fun j h1 h2 => hd j h1 (by omega))]
      by_cases hc : S n = true ∧ dstOf l n = some t
      · rw [if_pos hc, if_neg]
        · rw [if_pos hc]
        · intro hi
          exact hd n (by omega) (by omega) hc.1 (by rw [hi]; simp) (by rw [hi, hc.2])
      · rw [if_neg hc, if_neg hc]

theorem tv_max {S : Nat → Bool} {j t : Nat} (hS : S j = true) (hd : dstOf l j = some t) : ∀ (n : Nat), j < n → (∀ j', j < j' → j' < n → dstOf l j' = some t → S j' = false) →
    tv l T0 s S n t = s.Vs.getD j .undef
  | 0, h, _ => by omega
  | n + 1, h, hn => by
    simp only [tv]
    by_cases e : j = n
    · subst e; rw [if_pos ⟨hS, hd⟩]
    · rw [if_neg (fun hc => by have := hn n (by omega) (by omega) hc.2; rw [this] at hc; exact absurd hc.1 (by simp))]
      exact tv_max hS hd n (by omega) (fun j' h1 h2 => hn j' h1 (by omega))

theorem tv_none {S : Nat → Bool} {t : Nat} : ∀ (n : Nat), (∀ j', j' < n → dstOf l j' = some t → S j' = false) → tv l T0 s S n t = getT T0 t
  | 0, _ => rfl
  | n + 1, hn => by
    simp only [tv]
    rw [if_neg (fun hc => by have := hn n (by omega) hc.2; rw [this] at hc; exact absurd hc.1 (by simp))]
    exact tv_none n (fun j' h1 => hn j' (by omega))

variable (l T0 s)
def TS (S : Nat → Bool) : Tm := (List.range T0.length).map (tv l T0 s S l.length)
variable {l T0 s}

theorem TS_at {S : Nat → Bool} {t : Nat} {c : AV} (h : (TS l T0 s S)[t]? = some c) : t < T0.length ∧ c = tv l T0 s S l.length t := by
  unfold TS at h
  rw [List.getElem?_map, Option.map_eq_some_iff] at h
  obtain ⟨x, hx, rfl⟩ := h
  rw [List.getElem?_eq_some_iff] at hx
  obtain ⟨h1, h2⟩ := hx
  simp at h1 h2
  subst h2
  exact ⟨h1, rfl⟩
theorem TS_length {S : Nat → Bool} : (TS l T0 s S).length = T0.length := by simp [TS]

theorem TS_start : TS l T0 s (fun _ => false) = T0 := by
  apply List.ext_getElem? 
  intro t
  by_cases ht : t < T0.length
  · unfold TS
    rw [List.getElem?_map, List.getElem?_range ht]
    simp only [Option.map_some]
    rw [tv_none _ (fun _ _ _ => rfl), getT, List.getD_eq_getElem?_getD, List.getElem?_eq_getElem ht]
    rfl
  · rw [List.getElem?_eq_none (by rw [TS_length]; omega), List.getElem?_eq_none (by omega)]

theorem TS_add {S : Nat → Bool} {i : Nat} (hS : S i = false) (hi : i < l.length) (hd : ∀ j, i < j → j < l.length → S j = true → dstOf l i ≠ none → dstOf l i ≠ dstOf l j) :
    TS l T0 s (add S i) = putT (TS l T0 s S) (dstOf l i) (s.Vs.getD i .undef) := by
  apply List.ext_getElem?
  intro t
  have hget : ∀ S, (TS l T0 s S)[t]? = if t < T0.length then some (tv l T0 s S l.length t) else none := by
    intro S
    unfold TS
    split
    · rename_i ht; rw [List.getElem?_map, List.getElem?_range ht]; rfl
    · rename_i ht; exact List.getElem?_eq_none (by simp; omega)
  rw [hget, tv_add hS _ hi hd]
  cases he : dstOf l i with
  | none => simp only [putT]; rw [hget]; simp
  | some d =>
    simp only [putT]
    by_cases hdt : d = t
    · subst hdt
      rw [List.getElem?_set_self', hget]
      split <;> simp
    · rw [List.getElem?_set_ne hdt, hget]
      have : ¬ (some d = some t) := fun h => hdt (by injection h)
      rw [if_neg this]

theorem putAll_snoc : ∀ (ds : List DOp) (Vs : List AV) (T : Tm) (d : DOp) (v : AV), ds.length = Vs.length → putAll T (ds ++ [d]) (Vs ++ [v]) = putT (putAll T ds Vs) d.dst v
  | [], [], T, d, v, _ => rfl
  | [], _ :: _, _, _, _, h => by simp at h
  | _ :: _, [], _, _, _, h => by simp at h
  | d' :: ds, v' :: Vs, T, d, v, h => by
    simp only [List.cons_append, putAll]
    exact putAll_snoc ds Vs _ d v (by simpa using h)

theorem putAll_len : ∀ (ds : List DOp) (Vs : List AV) (T : Tm), (putAll T ds Vs).length = T.length
  | [], [], T => rfl
  | [], _ :: _, T => rfl
  | _ :: _, [], T => rfl
  | d :: ds, v :: Vs, T => by
    simp only [putAll]
    rw [putAll_len ds Vs]
    cases d.dst <;> simp [putT]

theorem putAll_tv {ds : List DOp} (hlen : ds.length = l.length) (hv : s.Vs.length = l.length) (hd : ∀ i, i < l.length → (ds.getD i default).dst = dstOf l i) :
    putAll T0 ds s.Vs = TS l T0 s (fun _ => true) := by
  have key : ∀ n, n ≤ l.length → ∀ t, t < T0.length → (putAll T0 (ds.take n) (s.Vs.take n))[t]? = some (tv l T0 s (fun _ => true) n t) := by
    intro n
    induction n with
    | zero => intro _ t ht; simp [putAll, tv, getT, List.getElem?_eq_getElem ht]
    | succ n ih =>
      intro hn t ht
      have h1 : ds.take (n + 1) = ds.take n ++ [ds.getD n default] := by
        rw [List.take_succ_eq_append_getElem (by omega), List.getD_eq_getElem?_getD, List.getElem?_eq_getElem (by omega)]; rfl
      have h2 : s.Vs.take (n + 1) = s.Vs.take n ++ [s.Vs.getD n .undef] := by
        rw [List.take_succ_eq_append_getElem (by omega), List.getD_eq_getElem?_getD, List.getElem?_eq_getElem (by omega)]; rfl
      rw [h1, h2, putAll_snoc _ _ _ _ _ (by simp; omega), hd n (by omega)]
      have ih := ih (by omega) t ht
      simp only [tv, true_and]
      cases he : dstOf l n with
      | none => simp only [putT]; rw [ih]; simp
      | some d =>
        simp only [putT]
        by_cases hdt : d = t
        · subst hdt; rw [List.getElem?_set_self', ih]; simp
        · have : ¬ (some d = some t) := fun h => hdt (by injection h)
          rw [List.getElem?_set_ne hdt, ih, if_neg this]
  apply List.ext_getElem?
  intro t
  by_cases ht : t < T0.length
  · have := key l.length (Nat.le_refl _) t ht
    rw [List.take_of_length_le (by omega), List.take_of_length_le (by omega)] at this
    rw [this]
    unfold TS
    rw [List.getElem?_map, List.getElem?_range ht]
    rfl
  · rw [List.getElem?_eq_none (by rw [putAll_len]; omega), List.getElem?_eq_none (by rw [TS_length]; omega)]

/-! ### The acts -/

theorem acts_lt {q q' : Nat} (h : q < q') (hq : q' < (actsOf l).length) : (actsOf l).getD q 0 < (actsOf l).getD q' 0 := by
  have hp : List.Pairwise (· < ·) (actsOf l) := List.Pairwise.filter _ List.pairwise_lt_range
  rw [List.pairwise_iff_getElem] at hp
  rw [List.getD_eq_getElem?_getD, List.getD_eq_getElem?_getD, List.getElem?_eq_getElem (by omega), List.getElem?_eq_getElem hq]
  exact hp q q' (by omega) hq h

theorem acts_mem {q : Nat} (hq : q < (actsOf l).length) : (actsOf l).getD q 0 < l.length ∧ clOf l ((actsOf l).getD q 0) = 2 := by
  have : (actsOf l).getD q 0 ∈ actsOf l := by
    rw [List.getD_eq_getElem?_getD, List.getElem?_eq_getElem hq]; exact List.getElem_mem hq
  have key : ∀ x, x ∈ actsOf l → x < l.length ∧ clOf l x = 2 := by
    intro x hx
    unfold actsOf at hx
    rw [List.mem_filter] at hx
    exact ⟨by simpa using hx.1, by simpa [clOf] using hx.2⟩
  exact key _ this

theorem acts_idx {i : Nat} (hi : i < l.length) (hc : clOf l i = 2) : ((List.range i).filter fun i => (l.getD i default).cls == 2).length < (actsOf l).length ∧
    (actsOf l).getD ((List.range i).filter fun i => (l.getD i default).cls == 2).length 0 = i := by
  have hsplit : List.range l.length = List.range i ++ (i :: (List.range' (i + 1) (l.length - i - 1))) := by
    rw [List.range_eq_range', List.range_eq_range', show l.length = i + ((l.length - i - 1) + 1) by omega, ← List.range'_append_1, Nat.zero_add, List.range'_succ]
    congr 3
    omega
  have : actsOf l = (List.range i).filter (fun i => (l.getD i default).cls == 2) ++ (i :: (List.range' (i + 1) (l.length - i - 1)).filter (fun i => (l.getD i default).cls == 2)) := by
    unfold actsOf
    rw [hsplit, List.filter_append, List.filter_cons, if_pos (by simpa [clOf] using hc)]
  rw [this]
  exact ⟨by simp, by rw [List.getD_eq_getElem?_getD, List.getElem?_append_right (Nat.le_refl _)]; simp⟩

theorem acts_inj {q q' : Nat} (hq : q < (actsOf l).length) (hq' : q' < (actsOf l).length) (h : (actsOf l).getD q 0 = (actsOf l).getD q' 0) : q = q' := by
  rcases Nat.lt_trichotomy q q' with h1 | h1 | h1
  · have := acts_lt h1 hq'; omega
  · exact h1
  · have := acts_lt h1 hq; omega

theorem incl_mem {k a : Nat} (h : a ∈ inclOf l (k + 1)) : a ∈ prOf l ((actsOf l).getD k 0) ∧ clOf l a = 1 := by
  simp only [inclOf, List.mem_filter, Bool.and_eq_true] at h
  exact ⟨by simpa [prOf] using h.2.2, by simpa [clOf] using h.2.1⟩

variable (l) in
def lst (S : Nat → Bool) (k : Nat) : List Nat := (List.range l.length).filter fun a => S a && clOf l a == 1 && !(inclOf l k).contains a

theorem mem_lst {S : Nat → Bool} {k a : Nat} : a ∈ lst l S k ↔ a < l.length ∧ S a = true ∧ clOf l a = 1 ∧ a ∉ inclOf l k := by
  simp [lst, List.mem_filter, and_assoc]

theorem lst_all : lst l (fun _ => true) (actsOf l).length = lateOf l := by
  simp [lst, lateOf, clOf]

end

end Go.Proofs.YtedembbgeljdkaaGreatDoor.Ev
