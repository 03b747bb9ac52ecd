/-
  REGIONS WHOSE ORDER IS OPEN: what the evaluator has found, read off its end.
-/
import Derived.Test.YtedembbgeljdkaaGreatDoorEvRegion
import Derived.OrdersIn
namespace Go.Proofs.YtedembbgeljdkaaGreatDoor.Ev
open Go
set_option linter.all false

/-! ### Equality that is told is equality -/

theorem ba_beq {a b : ByteArray} (h : decide (a = b) = true) : a = b := of_decide_eq_true h

mutual
theorem AV.beq_eq : ∀ (a b : AV), AV.beq a b = true → a = b
  | .undef, b, h => by cases b <;> simp [AV.beq] at h ⊢
  | .bool a, b, h => by cases b <;> simp [AV.beq] at h ⊢; exact h
  | .int k a, b, h => by cases b <;> simp [AV.beq] at h ⊢; exact h
  | .str a, b, h => by cases b <;> simp [AV.beq] at h ⊢; exact h
  | .nilPtr, b, h => by cases b <;> simp [AV.beq] at h ⊢
  | .nilSl, b, h => by cases b <;> simp [AV.beq] at h ⊢
  | .nilFn, b, h => by cases b <;> simp [AV.beq] at h ⊢
  | .nilIf, b, h => by cases b <;> simp [AV.beq] at h ⊢
  | .nilMap, b, h => by cases b <;> simp [AV.beq] at h ⊢
  | .agg a, b, h => by cases b <;> simp [AV.beq] at h ⊢; exact AV.beqs_eq _ _ h
  | .tup a, b, h => by cases b <;> simp [AV.beq] at h ⊢; exact AV.beqs_eq _ _ h
  | .sl a n, b, h => by cases b <;> simp [AV.beq] at h ⊢; exact ⟨AV.beqs_eq _ _ h.1, h.2⟩
  | .dp a n, b, h => by cases b <;> simp [AV.beq] at h ⊢; exact ⟨AV.beqs_eq _ _ h.1, h.2⟩
  | .own .., b, h => by cases b <;> simp [AV.beq] at h ⊢; simpa [and_assoc] using h
  | .ptr .., b, h => by cases b <;> simp [AV.beq] at h ⊢; exact h
  | .fn f a c, b, h => by cases b <;> simp [AV.beq] at h ⊢; exact ⟨h.1.1, AV.beqs_eq _ _ h.1.2, AV.beqs_eq _ _ h.2⟩
  | .ifc t a, b, h => by cases b <;> simp [AV.beq] at h ⊢; exact ⟨h.1, AV.beq_eq _ _ h.2⟩
  | .map a, b, h => by cases b <;> simp [AV.beq] at h ⊢; exact h
  | .loopv a, b, h => by cases b <;> simp [AV.beq] at h ⊢; exact h
theorem AV.beqs_eq : ∀ (a b : List AV), AV.beqs a b = true → a = b
  | [], b, h => by cases b <;> simp [AV.beqs] at h ⊢
  | x :: a, b, h => by cases b <;> simp [AV.beqs] at h ⊢; exact ⟨AV.beq_eq _ _ h.1, AV.beqs_eq _ _ h.2⟩
end

/-! ### Small heaps -/

theorem addE_get (base : Nat) (Es : List (Option Ent)) : ∀ (adds : List Nat) (C : Heap) (b : Nat),
    (addE base Es C adds).get b = match (if base ≤ b ∧ (b - base) ∈ adds then Es.getD (b - base) none else none) with | some e => some e | none => C.get b := by
  intro adds
  induction adds with
  | nil => intro C b; simp [addE]
  | cons a adds ih =>
    intro C b
    have hstep : addE base Es C (a :: adds) = addE base Es (match Es.getD a none with | some e => C.put (base + a) e | none => C) adds := rfl
    rw [hstep, ih]
    by_cases hb : base ≤ b
    · by_cases hm : b - base ∈ adds
      · rw [if_pos ⟨hb, hm⟩, if_pos ⟨hb, List.mem_cons_of_mem _ hm⟩]
        cases he : Es.getD (b - base) none with
        | some e => rfl
        | none =>
          simp only
          by_cases hab : b - base = a
          · subst hab; rw [he]
          · cases Es.getD a none with
            | none => rfl
            | some e => simp only [Heap.get_put]; rw [if_neg (by omega)]
      · rw [if_neg (fun h => hm h.2)]
        by_cases hab : b - base = a
        · rw [if_pos ⟨hb, by rw [hab]; exact List.mem_cons_self ..⟩]
          have : b = base + a := by omega
          subst this
          simp only [Nat.add_sub_cancel_left]
          cases Es.getD a none with
          | none => rfl
          | some e => simp only [Heap.get_put, if_true]
        · rw [if_neg (fun h => (List.mem_cons.1 h.2).elim hab hm)]
          cases Es.getD a none with
          | none => rfl
          | some e => simp only [Heap.get_put]; rw [if_neg (by omega)]
    · rw [if_neg (fun h => hb h.1), if_neg (fun h => hb h.1)]
      cases Es.getD a none with
      | none => rfl
      | some e => simp only [Heap.get_put]; rw [if_neg (by omega)]

theorem addE_next (base : Nat) (Es : List (Option Ent)) : ∀ (adds : List Nat) (C : Heap), (addE base Es C adds).next = C.next := by
  intro adds
  induction adds with
  | nil => intro C; rfl
  | cons a adds ih =>
    intro C
    have hstep : addE base Es C (a :: adds) = addE base Es (match Es.getD a none with | some e => C.put (base + a) e | none => C) adds := rfl
    rw [hstep, ih]
    cases Es.getD a none <;> rfl

theorem addE_congr (base : Nat) {Es Es' : List (Option Ent)} : ∀ (adds : List Nat) (C : Heap), (∀ a ∈ adds, Es.getD a none = Es'.getD a none) → addE base Es C adds = addE base Es' C adds := by
  intro adds
  induction adds with
  | nil => intro C _; rfl
  | cons a adds ih =>
    intro C h
    have hstep : ∀ Es, addE base Es C (a :: adds) = addE base Es (match Es.getD a none with | some e => C.put (base + a) e | none => C) adds := fun _ => rfl
    rw [hstep, hstep, h a (List.mem_cons_self ..), ih _ (fun x hx => h x (List.mem_cons_of_mem _ hx))]

/-! ### Slots -/

theorem useT_congr {T0 : Tm} {Vs Vs' : List AV} {us : List (Nat × Option Nat)} (h : ∀ u ∈ us, ∀ j, u.2 = some j → Vs.getD j .undef = Vs'.getD j .undef) : useT T0 Vs us = useT T0 Vs' us := by
  unfold useT
  generalize (List.replicate T0.length AV.undef) = T
  induction us generalizing T with
  | nil => rfl
  | cons u us ih =>
    have hu : useV T0 Vs u = useV T0 Vs' u := by
      unfold useV
      cases hj : u.2 with
      | none => rfl
      | some j => exact h u (List.mem_cons_self ..) j hj
    simp only [List.foldl_cons, hu]
    exact ih (fun u' hu' => h u' (List.mem_cons_of_mem _ hu')) _

theorem useT_at (T0 : Tm) (Vs : List AV) (us : List (Nat × Option Nat)) : (useT T0 Vs us).length = T0.length ∧
    ∀ (t : Nat) (c : AV), (useT T0 Vs us)[t]? = some c → c = .undef ∨ ∃ u ∈ us, u.1 = t ∧ c = useV T0 Vs u := by
  have key : ∀ (us : List (Nat × Option Nat)) (T : Tm), (us.foldl (fun T u => T.set u.1 (useV T0 Vs u)) T).length = T.length ∧
      ∀ (t : Nat) (c : AV), (us.foldl (fun T u => T.set u.1 (useV T0 Vs u)) T)[t]? = some c → T[t]? = some c ∨ ∃ u ∈ us, u.1 = t ∧ c = useV T0 Vs u := by
    intro us
    induction us with
    | nil => intro T; exact ⟨rfl, fun t c h => .inl h⟩
    | cons u us ih =>
      intro T
      obtain ⟨h1, h2⟩ := ih (T.set u.1 (useV T0 Vs u))
      refine ⟨by rw [List.foldl_cons, h1, List.length_set], fun t c h => ?_⟩
      rw [List.foldl_cons] at h
      rcases h2 t c h with h | ⟨u', hu', h⟩
      · by_cases e : u.1 = t
        · subst e
          rw [List.getElem?_set_self'] at h
          cases hc : T[u.1]? with
          | none => rw [hc] at h; cases h
          | some x => rw [hc] at h; cases h; exact .inr ⟨u, List.mem_cons_self .., rfl, rfl⟩
        · rw [List.getElem?_set_ne e] at h; exact .inl h
      · exact .inr ⟨u', List.mem_cons_of_mem _ hu', h⟩
  obtain ⟨h1, h2⟩ := key us (List.replicate T0.length .undef)
  refine ⟨by rw [useT, h1, List.length_replicate], fun t c h => ?_⟩
  rcases h2 t c h with h | h
  · rw [List.getElem?_replicate] at h
    split at h
    · cases h; exact .inl rfl
    · cases h
  · exact .inr h

/-! ### The evaluator's trace -/

def Pre (s s' : DS) : Prop := s.Vs <+: s'.Vs ∧ s.Cs <+: s'.Cs ∧ s.Es <+: s'.Es
theorem Pre.refl (s : DS) : Pre s s := ⟨List.prefix_rfl, List.prefix_rfl, List.prefix_rfl⟩
theorem Pre.trans {a b c : DS} (h : Pre a b) (h' : Pre b c) : Pre a c := ⟨h.1.trans h'.1, h.2.1.trans h'.2.1, h.2.2.trans h'.2.2⟩
theorem prefix_getD {α : Type} {a b : List α} (h : a <+: b) {i : Nat} (hi : i < a.length) (d : α) : b.getD i d = a.getD i d := by
  obtain ⟨c, rfl⟩ := h
  rw [List.getD_eq_getElem?_getD, List.getD_eq_getElem?_getD, List.getElem?_append_left hi]
theorem prefix_at {α : Type} {a b : List α} {x : α} (h : a ++ [x] <+: b) (d : α) : b.getD a.length d = x := by
  rw [prefix_getD h (by simp), List.getD_eq_getElem?_getD]; simp

theorem drawOp_grow {cal : Cal} {base : Nat} {T0 : Tm} {i : Nat} {d : DOp} {s s' : DS} (h : drawOp cal base T0 i d s = some s') (hcl : d.cls = 0 ∨ d.cls = 1 ∨ d.cls = 2) :
    Pre s s' ∧ s'.Vs.length = s.Vs.length + 1 ∧ s'.Es.length = s.Es.length + 1 ∧ s'.Cs.length = s.Cs.length + (if d.cls = 2 then 1 else 0) := by
  unfold drawOp at h
  cases hw : wantedA (useT T0 s.Vs d.uses) d.guard with
  | none => simp only [hw] at h; cases h
  | some b =>
    cases b <;> simp only [hw] at h <;> rcases hcl with hcl | hcl | hcl <;> simp only [hcl] at h <;> (repeat' (split at h)) <;> first | (cases h; done) | skip
    all_goals (first | (exfalso; rename_i h0 _; exact h0 rfl) | (exfalso; rename_i h0; exact h0 rfl) | skip)
    all_goals (first | (cases h; exact ⟨⟨List.prefix_append _ _, by first | exact List.prefix_append _ _ | exact List.prefix_rfl, List.prefix_append _ _⟩, by simp, by simp, by simp [hcl]⟩) | skip)

theorem drawGo_at {cal : Cal} {base : Nat} {T0 : Tm} : ∀ (ds : List DOp) (i : Nat) (s0 s : DS), (∀ d ∈ ds, d.cls = 0 ∨ d.cls = 1 ∨ d.cls = 2) → drawGo cal base T0 i ds s0 = some s →
    Pre s0 s ∧ s.Vs.length = s0.Vs.length + ds.length ∧ s.Es.length = s0.Es.length + ds.length ∧ s.Cs.length = s0.Cs.length + (ds.filter fun d => d.cls == 2).length ∧
    ∀ (q : Nat) (d : DOp), ds[q]? = some d → ∃ s1 s2, drawOp cal base T0 (i + q) d s1 = some s2 ∧ Pre s2 s ∧ s1.Vs.length = s0.Vs.length + q ∧ s1.Es.length = s0.Es.length + q ∧
      s1.Cs.length = s0.Cs.length + ((ds.take q).filter fun d => d.cls == 2).length := by
  intro ds
  induction ds with
  | nil => intro i s0 s _ h; cases h; exact ⟨Pre.refl _, rfl, rfl, rfl, fun q d h => by simp at h⟩
  | cons d ds ih =>
    intro i s0 s hcl h
    simp only [drawGo] at h
    split at h
    · rename_i s1 h1
      obtain ⟨g1, g2, g3, g4⟩ := drawOp_grow h1 (hcl d (List.mem_cons_self ..))
      obtain ⟨k1, k2, k3, k4, k5⟩ := ih (i + 1) s1 s (fun d' hd' => hcl d' (List.mem_cons_of_mem _ hd')) h
      have hfl : ∀ (x : List DOp), ((d :: x).filter fun d => d.cls == 2).length = (if d.cls = 2 then 1 else 0) + (x.filter fun d => d.cls == 2).length := by
        intro x
        rw [List.filter_cons]
        by_cases hd : d.cls = 2
        · simp [hd]; omega
        · simp [hd]
      refine ⟨g1.trans k1, by simp; omega, by simp; omega, by rw [hfl]; omega, fun q d' hq => ?_⟩
      cases q with
      | zero => simp at hq; subst hq; exact ⟨s0, s1, h1, k1, rfl, rfl, rfl⟩
      | succ q =>
        obtain ⟨s2, s3, e1, e2, e3, e4, e5⟩ := k5 q d' (by simpa using hq)
        refine ⟨s2, s3, by rw [show i + (q + 1) = i + 1 + q by omega]; exact e1, e2, by omega, by omega, ?_⟩
        rw [List.take_succ_cons, hfl]; omega
    · cases h

def OpS (cal : Cal) (base : Nat) (T0 : Tm) (s : DS) (i : Nat) (d : DOp) : Prop :=
  (wantedA (useT T0 s.Vs d.uses) d.guard = some false ∧ s.Vs.getD i .undef = .tup [] ∧ s.Es.getD i none = none ∧
    (d.cls = 2 → ∀ k adds, d.looks = [(k, adds)] → s.Cs.getD (k + 1) default = addE base s.Es (s.Cs.getD k default) adds)) ∨
  (wantedA (useT T0 s.Vs d.uses) d.guard = some true ∧
    ((d.cls = 0 ∧ s.Es.getD i none = none ∧ (pureA (Src.ev (useT T0 s.Vs d.uses)) d.op = some (s.Vs.getD i .undef) ∨ (pureA (Src.ev (useT T0 s.Vs d.uses)) d.op = none ∧ d.op.looks = true))) ∨
     (d.cls = 1 ∧ d.op.makes = true ∧ ∃ H', heapA (Src.ev (useT T0 s.Vs d.uses)) (Heap.nil 0) (base + i) d.op = some (s.Vs.getD i .undef, H') ∧ s.Es.getD i none = H'.get (base + i)) ∨
     (d.cls = 2 ∧ s.Es.getD i none = none ∧ ∀ k adds, d.looks = [(k, adds)] → ∃ H', opA cal (Src.ev (useT T0 s.Vs d.uses)) (addE base s.Es (s.Cs.getD k default) adds) (base + i) d.op = some (s.Vs.getD i .undef, H') ∧ H'.next = (s.Cs.getD (k + 1) default).next ∧ ∀ b, H'.get b = (s.Cs.getD (k + 1) default).get b)))

theorem opS_of {cal : Cal} {base : Nat} {T0 : Tm} {i : Nat} {d : DOp} {s1 s2 s : DS} (h : drawOp cal base T0 i d s1 = some s2) (hs : Pre s2 s) (hcl : d.cls = 0 ∨ d.cls = 1 ∨ d.cls = 2)
    (hV : s1.Vs.length = i) (hE : s1.Es.length = i) (huse : ∀ u ∈ d.uses, ∀ j, u.2 = some j → j < i)
    (hlk : d.cls = 2 → ∀ k adds, d.looks = [(k, adds)] → s1.Cs.length = k + 1 ∧ ∀ a ∈ adds, a < i) : OpS cal base T0 s i d := by
  have hg := drawOp_grow h hcl
  have hp1 : Pre s1 s := hg.1.trans hs
  have hT : useT T0 s1.Vs d.uses = useT T0 s.Vs d.uses := useT_congr fun u hu j hj => (prefix_getD hp1.1 (by rw [hV]; exact huse u hu j hj) _).symm
  have hadd : d.cls = 2 → ∀ k adds, d.looks = [(k, adds)] → addE base s1.Es (s1.Cs.getD k default) adds = addE base s.Es (s.Cs.getD k default) adds := by
    intro h2 k adds hl
    obtain ⟨hk, ha⟩ := hlk h2 k adds hl
    rw [prefix_getD hp1.2.1 (by omega) default]
    exact addE_congr _ _ _ fun a hm => (prefix_getD hp1.2.2 (by rw [hE]; exact ha a hm) _).symm
  have atV : ∀ v, s2.Vs = s1.Vs ++ [v] → s.Vs.getD i .undef = v := fun v e => by
    have := hs.1; rw [e] at this; rw [← hV]; exact prefix_at this _
  have atE : ∀ v, s2.Es = s1.Es ++ [v] → s.Es.getD i none = v := fun v e => by
    have := hs.2.2; rw [e] at this; rw [← hE]; exact prefix_at this _
  have atC : ∀ k v, s1.Cs.length = k + 1 → s2.Cs = s1.Cs ++ [v] → s.Cs.getD (k + 1) default = v := fun k v hk e => by
    have := hs.2.1; rw [e] at this; rw [← hk]; exact prefix_at this _
  unfold drawOp at h
  rw [hT] at h
  unfold OpS
  cases hw : wantedA (useT T0 s.Vs d.uses) d.guard with
  | none => simp only [hw] at h; cases h
  | some b =>
  cases b
  · simp only [hw] at h
    refine .inl ⟨rfl, ?_⟩
    rcases hcl with hcl | hcl | hcl
    · simp only [hcl] at h; cases h; exact ⟨atV _ rfl, atE _ rfl, fun h2 => by omega⟩
    · simp only [hcl] at h; cases h; exact ⟨atV _ rfl, atE _ rfl, fun h2 => by omega⟩
    · simp only [hcl] at h
      cases hl : d.looks with
      | nil => simp only [hl] at h; cases h
      | cons p r =>
        cases r with
        | cons p' r => simp only [hl] at h; cases h
        | nil =>
          obtain ⟨k, adds⟩ := p
          simp only [hl] at h
          cases h
          refine ⟨atV _ rfl, atE _ rfl, fun _ k' adds' hl' => ?_⟩
          cases hl'
          rw [← hadd hcl _ _ hl]
          exact atC k _ (hlk hcl _ _ hl).1 rfl
  · simp only [hw] at h
    refine .inr ⟨rfl, ?_⟩
    rcases hcl with hcl | hcl | hcl <;> simp only [hcl] at h
    · refine .inl ⟨hcl, ?_⟩
      cases hv : pureA (Src.ev (useT T0 s.Vs d.uses)) d.op with
      | some v =>
        simp only [hv] at h
        cases h
        exact ⟨atE _ rfl, .inl (by rw [atV v rfl])⟩
      | none =>
        simp only [hv] at h
        split at h
        · split at h
          · rename_i hlk'
            split at h
            · cases h; exact ⟨atE _ rfl, .inr ⟨rfl, hlk'⟩⟩
            · cases h
          · cases h
        · cases h
    · refine .inr (.inl ⟨hcl, ?_⟩)
      split at h
      · rename_i hm
        split at h
        · rename_i v H' hv
          cases h
          exact ⟨hm, H', by rw [atV v rfl]; exact hv, atE _ rfl⟩
        · cases h
      · cases h
    · refine .inr (.inr ⟨hcl, ?_⟩)
      cases hl : d.looks with
      | nil => simp only [hl] at h; cases h
      | cons p r =>
        cases r with
        | cons p' r => simp only [hl] at h; cases h
        | nil =>
          obtain ⟨k, adds⟩ := p
          simp only [hl] at h
          split at h
          · rename_i v H' hv
            cases h
            refine ⟨atE _ rfl, fun k' adds' hl' => ?_⟩
            cases hl'
            refine ⟨H', ?_, ?_⟩
            · rw [← hadd hcl _ _ hl, atV v rfl]; exact hv
            · rw [atC k _ (hlk hcl _ _ hl).1 rfl]; exact ⟨rfl, fun _ => rfl⟩
          · cases h

end Go.Proofs.YtedembbgeljdkaaGreatDoor.Ev
