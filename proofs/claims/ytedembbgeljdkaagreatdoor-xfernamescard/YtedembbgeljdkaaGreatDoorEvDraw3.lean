/-
  REGIONS WHOSE ORDER IS OPEN: the evaluator's word is the model's, in whatever order.
-/
import Derived.Test.YtedembbgeljdkaaGreatDoorEvDraw2
namespace Go.Proofs.YtedembbgeljdkaaGreatDoor.Ev
open Go
set_option linter.all false

section
variable {P : Program} {μ μ' : Mu} {F : Nat → Prop} {w w' : World}

theorem HR.sub {A D : Heap} (hH : HR P μ F A w) (hsub : ∀ b e, D.get b = some e → A.get b = some e) (hn : D.next = A.next) : HR P μ F D w :=
  ⟨fun b L hb => hn ▸ hH.dom b L hb, hH.fb, fun b e hb => hH.ent b e (hsub b e hb), fun b b' e e' L L' h1 h2 => hH.inj b b' e e' L L' (hsub _ _ h1) (hsub _ _ h2), hH.gl⟩

theorem sub_step {I : Nat → Prop} {A D D' A' : Heap} (hH : HR P μ F A w) (hsub : ∀ b e, D.get b = some e → A.get b = some e) (hnx : D.next = A.next) (hr : HR P μ' F D' w')
    (st : Stp I P μ F D w μ' F D' w') (hn' : A'.next = D'.next) (h' : ∀ b e, A'.get b = some e → D'.get b = some e ∨ (D.get b = none ∧ A.get b = some e)) :
    HR P μ' F A' w' ∧ Stp I P μ F A w μ' F A' w' := by
  have rwsub : ∀ b, D.rwAt b → A.rwAt b := fun b ⟨e, h1, h2⟩ => ⟨e, hsub b e h1, h2⟩
  -- what stands beside the part is not touched
  have beside : ∀ b e L, D.get b = none → A.get b = some e → μ b = some L → w'.heap[L.blk]? = w.heap[L.blk]? := by
    intro b e L hD hA hL
    refine st.keep _ (hH.dom b L hL).2 fun b0 L0 hb0 hL0 he => ?_
    obtain ⟨e0, h1, _⟩ := hb0
    have := hH.inj b0 b e0 e L0 L (hsub _ _ h1) hA hL0 hL he
    subst this
    rw [hD] at h1; cases h1
  have apart : ∀ b1 e1 L1 b2 e2 L2, D'.get b1 = some e1 → μ' b1 = some L1 → D.get b2 = none → A.get b2 = some e2 → μ b2 = some L2 → L1.blk ≠ L2.blk := by
    intro b1 e1 L1 b2 e2 L2 h1 hL1 hD h2 hL2 he
    rcases st.alv b1 e1 L1 h1 hL1 with hge | ⟨b0, e0, L0, h0, hL0, hq⟩
    · have := (hH.dom b2 L2 hL2).2; omega
    · have := hH.inj b0 b2 e0 e2 L0 L2 (hsub _ _ h0) h2 hL0 hL2 (hq.trans he)
      subst this
      rw [hD] at h0; cases h0
  have atμ : ∀ b e L', A.get b = some e → μ' b = some L' → μ b = some L' := by
    intro b e L' hA hL'
    obtain ⟨L, hL, _⟩ := hH.ent b e hA
    have := st.mu b L hL
    rw [hL'] at this; cases this
    exact hL
  refine ⟨⟨fun b L hb => hn' ▸ hr.dom b L hb, hr.fb, fun b e hb => ?_, fun b1 b2 e1 e2 L1 L2 h1 h2 hL1 hL2 he => ?_, hr.gl⟩, ⟨st.mu, st.fr, st.size, fun c hc hn => st.keep c hc fun b L hb hL => hn b L (rwsub b hb) hL, fun b L hb hL => ?_, ?_, fun b hb hi hn => st.new b (hnx ▸ hb) hi hn, st.rng, fun b e hb hl hi => ?_, fun b e L hb hL => ?_, st.tape, st.os, st.out⟩⟩
  · rcases h' b e hb with h1 | ⟨hD, hA⟩
    · exact hr.ent b e h1
    · obtain ⟨L, hL, hE⟩ := hH.ent b e hA
      have hkeepF : ∀ c, F c → w'.heap[c]? = w.heap[c]? := (st.keepF (hH.sub hsub hnx))
      exact ⟨L, st.mu b L hL, hE.mono st.mu st.fr hkeepF (beside b e L hD hA hL) (fun hr' => hE.notF hr')⟩
  · rcases h' b1 e1 h1 with g1 | ⟨gD1, g1⟩ <;> rcases h' b2 e2 h2 with g2 | ⟨gD2, g2⟩
    · exact hr.inj _ _ _ _ _ _ g1 g2 hL1 hL2 he
    · exact absurd he (apart _ _ _ _ _ _ g1 hL1 gD2 g2 (atμ _ _ _ g2 hL2))
    · exact absurd he.symm (apart _ _ _ _ _ _ g2 hL2 gD1 g1 (atμ _ _ _ g1 hL1))
    · exact hH.inj _ _ _ _ _ _ g1 g2 (atμ _ _ _ g1 hL1) (atμ _ _ _ g2 hL2) he
  · obtain ⟨e, h1, h2⟩ := hb
    rcases h' b e h1 with g | ⟨_, g⟩
    · rcases st.rw b L ⟨e, g, h2⟩ hL with hge | ⟨b0, L0, h0, hL0, hq⟩
      · exact .inl hge
      · exact .inr ⟨b0, L0, rwsub _ h0, hL0, hq⟩
    · exact .inr ⟨b, L, ⟨e, g, h2⟩, atμ _ _ _ g hL, rfl⟩
  · rw [← hnx, hn']; exact st.next
  · rcases h' b e hb with g | ⟨_, g⟩
    · obtain ⟨e0, h0⟩ := st.old b e g (hnx ▸ hl) hi
      exact ⟨e0, hsub _ _ h0⟩
    · exact ⟨e, g⟩
  · rcases h' b e hb with g | ⟨_, g⟩
    · rcases st.alv b e L g hL with hge | ⟨b0, e0, L0, h0, hL0, hq⟩
      · exact .inl hge
      · exact .inr ⟨b0, e0, L0, hsub _ _ h0, hL0, hq⟩
    · exact .inr ⟨b, e, L, g, atμ _ _ _ g hL, rfl⟩
end

/-! ### Operations that look, and those that make -/

theorem mapEs_any {D A : Heap} (hsub : ∀ b e, D.get b = some e → A.get b = some e) {x : AV} {es : List (AV × AV)} (h : mapEs D x = some es) : mapEs A x = some es := by
  cases x <;> simp only [mapEs] at h ⊢ <;> first | exact h | (cases h; done) | skip
  split at h
  · rename_i es' he
    cases h
    rw [hsub _ _ he]
  · rename_i es' he
    cases h
    rw [hsub _ _ he]
  · cases h

theorem looks_any {T : Tm} {D A D' : Heap} {op : AOp} {v : AV} {i j : Nat} (hsub : ∀ b e, D.get b = some e → A.get b = some e) (hl : op.looks = true) (h : heapA (Src.ev T) D i op = some (v, D')) : heapA (Src.ev T) A j op = some (v, A) := by
  cases op <;> simp only [AOp.looks] at hl <;> first | (cases hl; done) | skip
  case load k x =>
    simp only [heapA, Option.map_eq_some_iff] at h ⊢
    obtain ⟨u, hu, h⟩ := h
    cases h
    refine ⟨v, ?_, rfl⟩
    generalize x.ev T = y at hu ⊢
    cases y <;> simp only [loadA] at hu ⊢ <;> first | exact hu | (cases hu; done) | skip
    split at hu
    · rename_i cs ty rw he
      rw [hsub _ _ he]; exact hu
    · cases hu
  case globIdx cs len size i =>
    simp only [heapA] at h ⊢
    split at h
    · split at h
      · rename_i hlt
        cases h
        rw [if_pos hlt]
      · cases h
    · cases h
  case globLoad k cs =>
    simp only [heapA, Option.map_eq_some_iff] at h ⊢
    obtain ⟨u, hu, h⟩ := h
    cases h
    exact ⟨v, hu, rfl⟩
  case lookup kd zero x i ok =>
    simp only [heapA, Option.map_eq_some_iff] at h ⊢
    obtain ⟨u, hu, h⟩ := h
    cases h
    refine ⟨v, ?_, rfl⟩
    unfold lookA at hu ⊢
    split at hu
    · cases hu
    · rename_i hk
      rw [if_neg hk]
      cases hm : mapEs D (x.ev T) with
      | none => rw [hm] at hu; cases hu
      | some es => rw [hm] at hu; rw [mapEs_any hsub hm]; exact hu
  case lenMap x =>
    simp only [heapA] at h ⊢
    generalize x.ev T = y at h ⊢
    cases y <;> simp only at h ⊢ <;> first | (cases h; done) | skip
    · cases h; rfl
    · split at h
      · rename_i es he
        cases h
        rw [hsub _ _ he]
      · rename_i es he
        cases h
        rw [hsub _ _ he]
      · cases h

theorem makes_any {T : Tm} {H0 H1 A : Heap} {op : AOp} {v : AV} {id : Nat} (hl : op.makes = true) (h : heapA (Src.ev T) H0 id op = some (v, H1)) :
    ∃ e, H1.get id = some e ∧ heapA (Src.ev T) A id op = some (v, A.put id e) ∧ pureA (Src.ev T) op = none := by
  cases op <;> simp only [AOp.makes] at hl <;> first | (cases hl; done) | skip
  case alloc ty z => cases h; exact ⟨_, by rw [Heap.get_put, if_pos rfl], rfl, rfl⟩
  case mkmap => cases h; exact ⟨_, by rw [Heap.get_put, if_pos rfl], rfl, rfl⟩
  case box ty x =>
    simp only [heapA] at h ⊢
    split at h
    · rename_i hc
      cases h
      exact ⟨_, by rw [Heap.get_put, if_pos rfl], by rw [if_pos hc], rfl⟩
    · cases h
  case buildSlice ty size zeros len parts =>
    simp only [heapA] at h ⊢
    split at h
    · cases h
    · rename_i cs hc
      cases h
      exact ⟨_, by rw [Heap.get_put, if_pos rfl], rfl, rfl⟩
  case mksl ty size bytes zero l c =>
    simp only [heapA] at h ⊢
    split at h
    · rename_i l' c' h1 h2
      split at h
      · rename_i hc
        cases h
        exact ⟨_, by rw [Heap.get_put, if_pos rfl], by rw [if_pos hc], rfl⟩
      · cases h
    · cases h

theorem opA_pure {cal : Cal} {T : Tm} {H : Heap} {id : Nat} {op : AOp} {v : AV} (h : pureA (Src.ev T) op = some v) : opA cal (Src.ev T) H id op = some (v, H) := by
  cases op <;> first | (simp only [opA, h]; done) | (simp [pureA] at h; done)
theorem opA_heap {cal : Cal} {T : Tm} {H : Heap} {id : Nat} {op : AOp} {r : AV × Heap} (h : pureA (Src.ev T) op = none) (hh : heapA (Src.ev T) H id op = some r) : opA cal (Src.ev T) H id op = some r := by
  cases op <;> first | (simp only [opA, h]; exact hh) | (simp [heapA] at hh; done)

theorem sameLook_at {base : Nat} {T0 : Tm} {s : DS} : ∀ (ds : List DOp) (i : Nat), sameLooks base T0 s i ds = true → ∀ (q : Nat) (d : DOp), ds[q]? = some d → sameLook base T0 s (i + q) d = true := by
  intro ds
  induction ds with
  | nil => intro i _ q d h; simp at h
  | cons d ds ih =>
    intro i h q d' hq
    simp only [sameLooks, Bool.and_eq_true] at h
    cases q with
    | zero => simp at hq; subst hq; exact h.1
    | succ q => rw [show i + (q + 1) = i + 1 + q by omega]; exact ih (i + 1) h.2 q d' (by simpa using hq)

end Go.Proofs.YtedembbgeljdkaaGreatDoor.Ev
