/-
  REGIONS WHOSE ORDER IS OPEN: one operation more, and all.
-/
import Derived.Test.YtedembbgeljdkaaGreatDoorEvDraw3
namespace Go.Proofs.YtedembbgeljdkaaGreatDoor.Ev
open Go
set_option linter.all false

structure DrawOK (P : Program) (ops : Array Oper) (l : List DI) (ds : List DOp) : Prop where
  len : l.length ≤ ops.size
  dlen : ds.length = l.length
  op : ∀ i, i < l.length → ∃ o, ops[i]? = some o ∧ o.dst = dstOf l i ∧ cGuard ops o.guard = some (l.getD i default).guard ∧ (l.getD i default).op = (cOp P o).getD .bad
  dso : ∀ i, i < l.length → (ds.getD i default).dst = dstOf l i ∧ (ds.getD i default).op = (l.getD i default).op ∧ (ds.getD i default).guard = (l.getD i default).guard ∧ (ds.getD i default).cls = clOf l i
  cl : ∀ i, i < l.length → clOf l i = 0 ∨ clOf l i = 1 ∨ clOf l i = 2
  back : ∀ i o, i < l.length → ops[i]? = some o → ∀ j ∈ bindsOf o, j < i
  pre : ∀ i o, i < l.length → ops[i]? = some o → ∀ p ∈ prOf l i, ∃ j ∈ bindsOf o, p = j ∨ p ∈ prOf l j
  same : ∀ i j, i < j → j < l.length → dstOf l i ≠ none → dstOf l i = dstOf l j → i ∈ prOf l j
  acts : ∀ i j, i < j → j < l.length → clOf l i = 2 → clOf l j = 2 → i ∈ prOf l j
  useS : ∀ i, i < l.length → ∀ t j, (t, some j) ∈ (ds.getD i default).uses → j ∈ prOf l i ∧ dstOf l j = some t ∧ j < i ∧ ∀ j', j' < l.length → dstOf l j' = some t → j' ≤ j ∨ i ∈ prOf l j' ∨ j' = i
  useN : ∀ i, i < l.length → ∀ t, (t, none) ∈ (ds.getD i default).uses → ∀ j', j' < l.length → dstOf l j' = some t → j' = i ∨ i ∈ prOf l j'
  look : ∀ i, i < l.length → ∀ k adds, (k, adds) ∈ (ds.getD i default).looks → ∀ a ∈ adds, a ∈ prOf l i ∧ clOf l a = 1 ∧ a ∉ inclOf l k ∧ a < i
  seen : ∀ i, i < l.length → clOf l i = 0 → ∀ k, k ≤ (actsOf l).length → (∃ q, q < (actsOf l).length ∧ (actsOf l).getD q 0 ∈ prOf l i ∧ k ≤ q) ∨ (∃ q, q < (actsOf l).length ∧ i ∈ prOf l ((actsOf l).getD q 0) ∧ q < k) ∨
    ∃ adds, (k, adds) ∈ (ds.getD i default).looks
  act : ∀ i, i < l.length → clOf l i = 2 → ∃ k adds, (ds.getD i default).looks = [(k, adds)] ∧ k < (actsOf l).length ∧ (actsOf l).getD k 0 = i ∧ ∀ a, a < l.length → (a ∈ inclOf l (k + 1) ↔ a ∈ inclOf l k ∨ a ∈ adds)

section
variable {P : Program} {ops : Array Oper} {l : List DI} {ds : List DOp} {T0 : Tm} {s : DS} {base : Nat} {F : Nat → Prop} {μ0 : Mu} {H0 : Heap} {w0 : World} {df : List Deferred}

variable (l s base) in
def Hh (S : Nat → Bool) (k : Nat) : Heap := addE base s.Es (s.Cs.getD k default) (lst l S k)

variable (P l T0 s base F μ0 H0 w0 df) in
structure Inv (S : Nat → Bool) (k : Nat) (μ : Mu) (a : Act) (w : World) : Prop where
  cl : ∀ j, j < l.length → S j = true → ∀ p ∈ prOf l j, S p = true
  kle : k ≤ (actsOf l).length
  act : ∀ q, q < (actsOf l).length → (S ((actsOf l).getD q 0) = true ↔ q < k)
  tm : LR μ F w (TS l T0 s S) a.tmps.toList
  hr : HR P μ F (Hh l s base S k) w
  noC : ∀ j, j < l.length → clOf l j = 1 → j ∉ inclOf l k → (s.Cs.getD k default).get (base + j) = none
  nx : base + l.length ≤ (s.Cs.getD k default).next
  un : ∀ j, j < l.length → S j = false → μ (base + j) = none
  st : Stp (fun b => base ≤ b) P μ0 F H0 w0 μ F (Hh l s base S k) w
  df : a.defers = df

theorem Inv.next {S : Nat → Bool} {k k' i : Nat} {μ μ' : Mu} {a : Act} {w w' : World} {D D' : Heap} {o : Oper} {u : Value} (J : Inv P l T0 s base F μ0 H0 w0 df S k μ a w) (G : DrawOK P ops l ds)
    (hi : i < l.length) (hS : S i = false) (hpre : ∀ p ∈ prOf l i, S p = true) (ho : o.dst = dstOf l i) (hv : VR μ' F w' (s.Vs.getD i .undef) u)
    (hsub : ∀ b e, D.get b = some e → (Hh l s base S k).get b = some e) (hnx : D.next = (Hh l s base S k).next) (hr : HR P μ' F D' w') (st : Stp (fun b => b = base + i) P μ F D w μ' F D' w')
    (hn' : (Hh l s base (add S i) k').next = D'.next) (h' : ∀ b e, (Hh l s base (add S i) k').get b = some e → D'.get b = some e ∨ (D.get b = none ∧ (Hh l s base S k).get b = some e))
    (hk : k' ≤ (actsOf l).length) (hact : ∀ q, q < (actsOf l).length → (add S i ((actsOf l).getD q 0) = true ↔ q < k'))
    (hno : ∀ j, j < l.length → clOf l j = 1 → j ∉ inclOf l k' → (s.Cs.getD k' default).get (base + j) = none) : Inv P l T0 s base F μ0 H0 w0 df (add S i) k' μ' (a.put o.dst u) w' := by
  obtain ⟨g1, g2⟩ := sub_step J.hr hsub hnx hr st hn' h'
  have hCn : ∀ S k, (Hh l s base S k).next = (s.Cs.getD k default).next := fun S k => addE_next _ _ _ _
  refine ⟨fun j hj hSj p hp => ?_, hk, hact, ?_, g1, hno, ?_, fun j hj hSj => ?_, J.st.trans (g2.mono fun b hb => ?_), ?_⟩
  · simp only [add] at hSj ⊢
    by_cases e : p = i
    · simp [e]
    · simp only [e, if_false]
      by_cases e' : j = i
      · subst e'; exact hpre p hp
      · simp only [e', if_false] at hSj; exact J.cl j hj hSj p hp
  · rw [TS_add hS hi, ho]
    · have := put_lr (a := a) (g2.lr J.hr J.tm) (dstOf l i) hv
      exact this
    · intro j h1 h2 h3 h4 h5
      have := J.cl j h2 h3 i (G.same i j h1 h2 h4 h5)
      rw [hS] at this; cases this
  · have := g2.next
    rw [hCn, hCn] at this
    exact Nat.le_trans J.nx this
  · simp only [add] at hSj
    split at hSj
    · cases hSj
    · rename_i hne
      have hn := J.nx
      refine g2.new (base + j) (by rw [hCn]; omega) (fun e => hne (by have e : base + j = base + i := e; omega)) (J.un j hj hSj)
  · have : b = base + i := hb
    omega
  · rw [← J.df]; cases o.dst <;> rfl

theorem Hh_get (S : Nat → Bool) (k b : Nat) : (Hh l s base S k).get b = match (if base ≤ b ∧ (b - base) ∈ lst l S k then s.Es.getD (b - base) none else none) with | some e => some e | none => (s.Cs.getD k default).get b := addE_get _ _ _ _ _

theorem Hh_plain {S : Nat → Bool} {k i : Nat} (hi : i < l.length) (hc : clOf l i ≠ 1 ∨ s.Es.getD i none = none) (b : Nat) : (Hh l s base (add S i) k).get b = (Hh l s base S k).get b := by
  rw [Hh_get, Hh_get]
  by_cases hb : base ≤ b
  · by_cases hbi : b - base = i
    · rw [hbi]
      rcases hc with hc | hc
      · rw [if_neg (fun h => hc (mem_lst.1 h.2).2.2.1), if_neg (fun h => hc (mem_lst.1 h.2).2.2.1)]
      · rw [hc]; simp
    · have : (b - base ∈ lst l (add S i) k) ↔ (b - base ∈ lst l S k) := by
        simp only [mem_lst, add, hbi, if_false]
      by_cases hm : b - base ∈ lst l S k
      · rw [if_pos ⟨hb, this.2 hm⟩, if_pos ⟨hb, hm⟩]
      · rw [if_neg (fun h => hm (this.1 h.2)), if_neg (fun h => hm h.2)]
  · rw [if_neg (fun h => hb h.1), if_neg (fun h => hb h.1)]

theorem act_plain {S : Nat → Bool} {k i : Nat} (h : ∀ q, q < (actsOf l).length → (S ((actsOf l).getD q 0) = true ↔ q < k)) (hc : clOf l i ≠ 2) :
    ∀ q, q < (actsOf l).length → (add S i ((actsOf l).getD q 0) = true ↔ q < k) := by
  intro q hq
  have : (actsOf l).getD q 0 ≠ i := fun e => hc (e ▸ (acts_mem hq).2)
  simp only [add, this, if_false]
  exact h q hq

theorem act_next {S : Nat → Bool} {k i kk : Nat} (G : DrawOK P ops l ds) (hi : i < l.length) (hS : S i = false) (hpre : ∀ p ∈ prOf l i, S p = true) (hkle : k ≤ (actsOf l).length)
    (h : ∀ q, q < (actsOf l).length → (S ((actsOf l).getD q 0) = true ↔ q < k)) (hc : clOf l i = 2) (hkk : kk < (actsOf l).length) (hki : (actsOf l).getD kk 0 = i) :
    kk = k ∧ ∀ q, q < (actsOf l).length → (add S i ((actsOf l).getD q 0) = true ↔ q < k + 1) := by
  have e : kk = k := by
    have h1 : ¬ kk < k := fun hlt => by have := (h kk hkk).2 hlt; rw [hki, hS] at this; cases this
    have h2 : ¬ k < kk := fun hlt => by
      have hk : k < (actsOf l).length := by omega
      have hm := acts_mem hk
      have := hpre _ (G.acts _ i (hki ▸ acts_lt hlt hkk) hi hm.2 hc)
      have := (h k hk).1 this
      omega
    omega
  refine ⟨e, fun q hq => ?_⟩
  subst e
  by_cases hq' : q = kk
  · subst hq'; rw [hki]; simp [add]
  · have : (actsOf l).getD q 0 ≠ i := fun h => hq' (acts_inj hq hkk (h.trans hki.symm))
    simp only [add, this, if_false]
    rw [h q hq]; omega


def sameAt (base : Nat) (T0 : Tm) (s : DS) (i k : Nat) (d : DOp) : Prop := d.cls = 0 → wantedA (useT T0 s.Vs d.uses) d.guard = some true → pureA (Src.ev (useT T0 s.Vs d.uses)) d.op = none → ∀ adds, (k, adds) ∈ d.looks →
  ∃ v D', heapA (Src.ev (useT T0 s.Vs d.uses)) (addE base s.Es (s.Cs.getD k default) adds) 0 d.op = some (v, D') ∧ AV.beq v (s.Vs.getD i .undef) = true

theorem sameAt_of {base : Nat} {T0 : Tm} {s : DS} {i : Nat} {d : DOp} (h : sameLook base T0 s i d = true) (k : Nat) : sameAt base T0 s i k d := by
  intro h0 hw hp adds hm
  unfold sameLook at h
  rw [h0, hw, hp] at h
  simp only [List.all_eq_true] at h
  have hx := h _ hm
  split at hx
  · rename_i v D' hv; exact ⟨v, D', hv, hx⟩
  · cases hx

theorem useT_lr {S : Nat → Bool} {k i : Nat} {μ : Mu} {a : Act} {w : World} (J : Inv P l T0 s base F μ0 H0 w0 df S k μ a w) (G : DrawOK P ops l ds) (hi : i < l.length) (hS : S i = false) (hpre : ∀ p ∈ prOf l i, S p = true) :
    LR μ F w (useT T0 s.Vs (ds.getD i default).uses) a.tmps.toList := by
  obtain ⟨h1, h2⟩ := useT_at T0 s.Vs (ds.getD i default).uses
  refine ⟨by rw [h1, ← J.tm.1, TS_length], fun t c v hc hv => ?_⟩
  rcases h2 t c hc with rfl | ⟨⟨t', u⟩, hu, rfl, rfl⟩
  · exact .undef v
  · have ht : t' < T0.length := by rw [← h1]; exact (List.getElem?_eq_some_iff.1 hc).1
    have hTS : (TS l T0 s S)[t']? = some (tv l T0 s S l.length t') := by
      unfold TS; rw [List.getElem?_map, List.getElem?_range ht]; rfl
    have hval : useV T0 s.Vs (t', u) = tv l T0 s S l.length t' := by
      have hbusy : ∀ j', j' < l.length → i ∈ prOf l j' → S j' = false := fun j' h1 h2 => by
        cases hb : S j' with
        | false => rfl
        | true => have := J.cl j' h1 hb i h2; rw [hS] at this; cases this
      cases u with
      | none =>
        refine (tv_none _ fun j' hj' hd => ?_).symm
        rcases G.useN i hi t' hu j' hj' hd with e | e
        · rw [e]; exact hS
        · exact hbusy j' hj' e
      | some j =>
        obtain ⟨g1, g2, g3, g4⟩ := G.useS i hi t' j hu
        refine (tv_max (hpre j g1) g2 _ (by omega) fun j' hlt hj' hd => ?_).symm
        rcases g4 j' hj' hd with e | e | e
        · omega
        · exact hbusy j' hj' e
        · rw [e]; exact hS
    rw [hval]
    exact J.tm.2 t' _ v hTS hv

theorem draw_step {cal : Cal} (hcal : CalOK P cal) {fence : Fence} {rd : Bool} (hF : FenceOK fence rd) {n : Nat} {Q : Exit → Act → World → Prop} {S : Nat → Bool} {k i : Nat} {μ : Mu} {a : Act} {w : World}
    (J : Inv P l T0 s base F μ0 H0 w0 df S k μ a w) (G : DrawOK P ops l ds) (hop : OpS cal base T0 s i (ds.getD i default)) (hsame : sameAt base T0 s i k (ds.getD i default))
    (hi : i < l.length) (hS : S i = false) (hpre : ∀ p ∈ prOf l i, S p = true) {K : Act → World → Prop}
    (hK : ∀ a' w' μ' k', Inv P l T0 s base F μ0 H0 w0 df (add S i) k' μ' a' w' → K a' w') : wpOpIn fence n P ops Q i K a w := by
  obtain ⟨o, hoi, hod, hog, hoo⟩ := G.op i hi
  obtain ⟨gd1, gd2, gd3, gd4⟩ := G.dso i hi
  have hT := useT_lr J G hi hS hpre
  have hid : μ (base + i) = none := J.un i hi hS
  have hCn : ∀ S k, (Hh l s base S k).next = (s.Cs.getD k default).next := fun S k => addE_next _ _ _ _
  have hlt : base + i < (Hh l s base S k).next := by have := J.nx; rw [hCn]; omega
  have hlook : ∀ k' adds, (k', adds) ∈ (ds.getD i default).looks → k' = k → ∀ b e, (addE base s.Es (s.Cs.getD k' default) adds).get b = some e → (Hh l s base S k).get b = some e := by
    intro k' adds hm hk' b e hb
    subst hk'
    have ha := G.look i hi k' adds hm
    rw [addE_get] at hb
    rw [Hh_get]
    by_cases hc : base ≤ b ∧ (b - base) ∈ adds
    · rw [if_pos hc] at hb
      obtain ⟨q1, q2, q3, q4⟩ := ha _ hc.2
      have hq : base ≤ b ∧ b - base ∈ lst l S k' := ⟨hc.1, mem_lst.2 ⟨by omega, hpre _ q1, q2, q3⟩⟩
      rw [if_pos hq]; exact hb
    · rw [if_neg hc] at hb
      simp only at hb
      by_cases hc' : base ≤ b ∧ b - base ∈ lst l S k'
      · have hm' := mem_lst.1 hc'.2
        have := J.noC (b - base) hm'.1 hm'.2.2.1 hm'.2.2.2
        rw [show base + (b - base) = b by omega, hb] at this
        cases this
      · rw [if_neg hc']; exact hb
  have hcop : ∀ {T : Tm} {H : Heap} {id : Nat} {r : AV × Heap}, opA cal (Src.ev T) H id (ds.getD i default).op = some r → cOp P o = some (ds.getD i default).op := by
    intro T H id r h
    rw [gd2, hoo] at h ⊢
    cases hco : cOp P o with
    | some x => rfl
    | none => rw [hco] at h; simp [opA, pureA, heapA] at h
  unfold Go.wpOpIn
  simp only [hoi]
  -- a value, no change of the heap, and no act
  have plain : clOf l i ≠ 2 → (clOf l i ≠ 1 ∨ s.Es.getD i none = none) → ∀ {u w' μ'}, Done (fun b => b = base + i) P μ F (Hh l s base S k) w (s.Vs.getD i .undef) (Hh l s base S k) u w' μ' → K (a.put o.dst u) w' := by
    intro h2 h1 u w' μ' hd
    refine hK _ _ μ' k (J.next G hi hS hpre hod hd.val (fun _ _ h => h) rfl hd.heap hd.stp (by rw [hCn, hCn]) (fun b e hb => .inl ?_) J.kle (act_plain J.act h2) J.noC)
    rw [← Hh_plain hi h1]; exact hb
  -- an act
  have acts : clOf l i = 2 → s.Es.getD i none = none → ∀ kk adds, (ds.getD i default).looks = [(kk, adds)] → kk = k → (∀ q, q < (actsOf l).length → (add S i ((actsOf l).getD q 0) = true ↔ q < k + 1)) → kk < (actsOf l).length →
      (∀ a, a < l.length → (a ∈ inclOf l (kk + 1) ↔ a ∈ inclOf l kk ∨ a ∈ adds)) →
      ∀ {u w' μ'}, Done (fun b => b = base + i) P μ F (addE base s.Es (s.Cs.getD kk default) adds) w (s.Vs.getD i .undef) (s.Cs.getD (kk + 1) default) u w' μ' → K (a.put o.dst u) w' := by
    intro h2 hE kk adds hl hkk hact hlen hincl u w' μ' hd
    subst hkk
    have hmem : (kk, adds) ∈ (ds.getD i default).looks := by rw [hl]; exact List.mem_cons_self ..
    have hD : (addE base s.Es (s.Cs.getD kk default) adds).next = (Hh l s base S kk).next := by rw [addE_next, hCn]
    have hDget : ∀ j, j < l.length → clOf l j = 1 → j ∉ inclOf l (kk + 1) → (addE base s.Es (s.Cs.getD kk default) adds).get (base + j) = none := by
      intro j hj hj1 hj2
      rw [addE_get, if_neg]
      · exact J.noC j hj hj1 (fun h => hj2 ((hincl j hj).2 (.inl h)))
      · intro h; rw [Nat.add_sub_cancel_left] at h; exact hj2 ((hincl j hj).2 (.inr h.2))
    refine hK _ _ μ' (kk + 1) (J.next G hi hS hpre hod hd.val (hlook kk adds hmem rfl) hD hd.heap hd.stp (hCn _ _) (fun b e hb => ?_) (by omega) hact (fun j hj hj1 hj2 => ?_))
    · rw [Hh_get] at hb
      by_cases hc : base ≤ b ∧ b - base ∈ lst l (add S i) (kk + 1)
      · rw [if_pos hc] at hb
        obtain ⟨m1, m2, m3, m4⟩ := mem_lst.1 hc.2
        cases hEe : s.Es.getD (b - base) none with
        | none => rw [hEe] at hb; exact .inl hb
        | some e' =>
          rw [hEe] at hb
          cases hb
          have hne : b - base ≠ i := fun h => by rw [h] at m3; omega
          refine .inr ⟨?_, ?_⟩
          · have := hDget _ m1 m3 m4
            rwa [show base + (b - base) = b by omega] at this
          · rw [Hh_get, if_pos ⟨hc.1, mem_lst.2 ⟨m1, by simpa [add, hne] using m2, m3, fun h => m4 ((hincl _ m1).2 (.inl h))⟩⟩, hEe]
      · rw [if_neg hc] at hb
        exact .inl hb
    · cases hg : (s.Cs.getD (kk + 1) default).get (base + j) with
      | none => rfl
      | some e =>
        have hne : j ≠ i := fun h => by subst h; omega
        obtain ⟨e0, h0⟩ := hd.stp.old (base + j) e hg (by rw [addE_next]; have := J.nx; omega) (fun h => hne (by have h : base + j = base + i := h; omega))
        rw [hDget j hj hj1 hj2] at h0; cases h0
  have actsFor : clOf l i = 2 → ∃ kk adds, (ds.getD i default).looks = [(kk, adds)] ∧ kk = k ∧ (∀ q, q < (actsOf l).length → (add S i ((actsOf l).getD q 0) = true ↔ q < k + 1)) ∧ kk < (actsOf l).length ∧
      (∀ a, a < l.length → (a ∈ inclOf l (kk + 1) ↔ a ∈ inclOf l kk ∨ a ∈ adds)) := by
    intro h2
    obtain ⟨kk, adds, hl, h3, h4, h5⟩ := G.act i hi h2
    obtain ⟨e, hact⟩ := act_next G hi hS hpre J.kle J.act h2 h3 h4
    exact ⟨kk, adds, hl, e, hact, h3, h5⟩
  rcases hop with ⟨hw, hV, hE, hC⟩ | ⟨hw, hrest⟩
  · -- not wanted
    have hw' := wanted_ok (o := o) hT (gd3 ▸ hog) hw
    rw [if_neg (by rw [hw']; decide)]
    refine ⟨fun f _ => hF.fn f, ?_⟩
    have hu : VR μ F w (s.Vs.getD i .undef) undef := by rw [hV]; exact tup_nil
    by_cases h2 : clOf l i = 2
    · obtain ⟨kk, adds, hl, e, hact, hlen, hincl⟩ := actsFor h2
      refine acts h2 hE kk adds hl e hact hlen hincl (μ' := μ) (u := undef) ?_
      rw [hC (gd4.trans h2) kk adds hl]
      exact ⟨hu, J.hr.sub (hlook kk adds (by rw [hl]; exact List.mem_cons_self ..) e) (by rw [addE_next, hCn, e]), Stp.refl _ _ _ _ _ _⟩
    · exact plain h2 (.inr hE) (μ' := μ) ⟨hu, J.hr, Stp.refl _ _ _ _ _ _⟩
  · have hw' := wanted_ok (o := o) hT (gd3 ▸ hog) hw
    rw [if_pos hw']
    rcases hrest with ⟨h0, hE, hval⟩ | ⟨h1, hm, H', hh, hE⟩ | ⟨h2, hE, hact⟩
    · have hc0 : clOf l i = 0 := gd4 ▸ h0
      have hopA : opA cal (Src.ev (useT T0 s.Vs (ds.getD i default).uses)) (Hh l s base S k) (base + i) (ds.getD i default).op = some (s.Vs.getD i .undef, Hh l s base S k) := by
        rcases hval with hv | ⟨hp, hlk⟩
        · exact opA_pure hv
        · -- the look that fits
          obtain ⟨adds, hm⟩ : ∃ adds, (k, adds) ∈ (ds.getD i default).looks := by
            rcases G.seen i hi hc0 k J.kle with ⟨q, hq, hq1, hq2⟩ | ⟨q, hq, hq1, hq2⟩ | h
            · have := (J.act q hq).1 (hpre _ hq1); omega
            · have hx := J.cl _ (acts_mem hq).1 ((J.act q hq).2 hq2) i hq1
              rw [hS] at hx; cases hx
            · exact h
          obtain ⟨v, D', hv, hx⟩ := hsame h0 hw hp adds hm
          have := AV.beq_eq _ _ hx
          subst this
          exact opA_heap hp (looks_any (hlook k adds hm rfl) hlk hv)
      exact opA_sound hcal (I := fun b => b = base + i) (hcop hopA) hopA hT J.hr hid hlt rfl hF fun u w' μ' hd => plain (by omega) (.inl (by omega)) hd
    · have hc1 : clOf l i = 1 := gd4 ▸ h1
      obtain ⟨e, he, hany, hp⟩ := makes_any (A := Hh l s base S k) hm hh
      have hopA : opA cal (Src.ev (useT T0 s.Vs (ds.getD i default).uses)) (Hh l s base S k) (base + i) (ds.getD i default).op = some (s.Vs.getD i .undef, (Hh l s base S k).put (base + i) e) := opA_heap hp hany
      refine opA_sound hcal (I := fun b => b = base + i) (hcop hopA) hopA hT J.hr hid hlt rfl hF fun u w' μ' hd => ?_
      have hni : i ∉ inclOf l k := by
        cases k with
        | zero => simp [inclOf]
        | succ k =>
          intro h
          have h1 := (incl_mem h).1
          have hq : k < (actsOf l).length := by have := J.kle; omega
          have hx := J.cl _ (acts_mem hq).1 ((J.act k hq).2 (by omega)) i h1
          rw [hS] at hx; cases hx
      refine hK _ _ μ' k (J.next G hi hS hpre hod hd.val (fun _ _ h => h) rfl hd.heap hd.stp (by rw [Heap.next_put, hCn, hCn]) (fun b e' hb => .inl ?_) J.kle (act_plain J.act (by omega)) J.noC)
      rw [Heap.get_put]
      rw [Hh_get] at hb
      by_cases hbi : b = base + i
      · subst hbi
        rw [Nat.add_sub_cancel_left, if_pos ⟨Nat.le_add_right _ _, mem_lst.2 ⟨hi, by simp [add], hc1, hni⟩⟩, hE, he] at hb
        rw [if_pos rfl]; exact hb
      · rw [if_neg hbi, Hh_get]
        by_cases hbb : base ≤ b
        · have hne : b - base ≠ i := by omega
          have : (b - base ∈ lst l (add S i) k) ↔ (b - base ∈ lst l S k) := by
            simp only [mem_lst, add, hne, if_false]
          by_cases hm : b - base ∈ lst l S k
          · rw [if_pos ⟨hbb, this.2 hm⟩] at hb; rw [if_pos ⟨hbb, hm⟩]; exact hb
          · rw [if_neg (fun h => hm (this.1 h.2))] at hb; rw [if_neg (fun h => hm h.2)]; exact hb
        · rw [if_neg (fun h => hbb h.1)] at hb; rw [if_neg (fun h => hbb h.1)]; exact hb
    · have hc2 : clOf l i = 2 := gd4 ▸ h2
      obtain ⟨kk, adds, hl, e, hact', hlen, hincl⟩ := actsFor hc2
      obtain ⟨HA, hopA, hAn, hAg⟩ := hact kk adds hl
      have hsub := hlook kk adds (by rw [hl]; exact List.mem_cons_self ..) e
      have hn : (addE base s.Es (s.Cs.getD kk default) adds).next = (Hh l s base S k).next := by rw [addE_next, hCn, e]
      refine opA_sound hcal (I := fun b => b = base + i) (hcop hopA) hopA hT (J.hr.sub hsub hn) hid (by rw [hn]; exact hlt) rfl hF fun u w' μ' hd => ?_
      exact acts hc2 hE kk adds hl e hact' hlen hincl ⟨hd.val, hd.heap.congr hAn hAg, hd.stp.congr hAn fun x e' he => ⟨e', by rw [hAg]; exact he, rfl⟩⟩

end
end Go.Proofs.YtedembbgeljdkaaGreatDoor.Ev
