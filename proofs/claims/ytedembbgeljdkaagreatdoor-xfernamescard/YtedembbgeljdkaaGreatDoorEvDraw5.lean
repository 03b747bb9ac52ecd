/-
  REGIONS WHOSE ORDER IS OPEN: all of one.
-/
import Derived.Test.YtedembbgeljdkaaGreatDoorEvDraw4
namespace Go.Proofs.YtedembbgeljdkaaGreatDoor.Ev
open Go
set_option linter.all false

theorem mapM_at {α β : Type} {f : α → Option β} : ∀ (xs : List α) (ys : List β), xs.mapM f = some ys → ys.length = xs.length ∧ ∀ (i : Nat) (x : α), xs[i]? = some x → ∃ y, ys[i]? = some y ∧ f x = some y
  | [], ys, h => by simp at h; subst h; exact ⟨rfl, fun i x h => by simp at h⟩
  | x :: xs, ys, h => by
    simp only [List.mapM_cons, Option.pure_def, Option.bind_eq_bind, Option.bind_eq_some_iff] at h
    obtain ⟨y, hy, ys', hys, h⟩ := h
    cases h
    obtain ⟨h1, h2⟩ := mapM_at xs ys' hys
    refine ⟨by simp [h1], fun i x' hx => ?_⟩
    cases i with
    | zero => simp at hx; subst hx; exact ⟨y, rfl, hy⟩
    | succ i => simpa using h2 i x' (by simpa using hx)

theorem getD_of {α : Type} {l : List α} {i : Nat} {x d : α} (h : l[i]? = some x) : l.getD i d = x := by rw [List.getD_eq_getElem?_getD, h]; rfl

def dopOf (l : List DI) (i : Nat) : DOp :=
  let d := l.getD i default
  { dst := d.dst, op := d.op, guard := d.guard, uses := ((d.op.slots ++ (match d.guard with | some (t, _) => [t] | none => [])).eraseDups).map fun t => (t, lastUse l i d.preds t), cls := d.cls, looks := looksOf l i : DOp }

theorem drawOK_gen {P : Program} {ops : Array Oper} {os : List Oper} {pr : List (List Nat)} {l : List DI} {ds : List DOp} (hos : ∀ (i : Nat) (o : Oper), os[i]? = some o → ops[i]? = some o)
    (hl : os.zipIdx.mapM (fun (o, i) => cDI P ops pr o i) = some l) (hds : (List.range l.length).map (dopOf l) = ds) (hok : drawOK os l ds = true) : DrawOK P ops l ds ∧ l.length = os.length := by
  obtain ⟨h1, h2⟩ := mapM_at _ _ hl
  have hlen : l.length = os.length := by simpa using h1
  simp only [drawOK, Bool.and_eq_true] at hok
  obtain ⟨⟨⟨ok1, ok2⟩, ok3⟩, ok4⟩ := hok
  have hdlen : ds.length = l.length := by rw [← hds]; simp
  have hosl : ∀ i, i < l.length → ∃ o, os[i]? = some o := fun i hi => ⟨os[i]'(hlen ▸ hi), List.getElem?_eq_getElem _⟩
  have hop : ∀ i, i < l.length → ∃ o, ops[i]? = some o ∧ cDI P ops pr o i = some (l.getD i default) := by
    intro i hi
    have hx : os.zipIdx[i]? = some (os[i]'(hlen ▸ hi), i) := by simp [hlen ▸ hi]
    obtain ⟨y, hy, hf⟩ := h2 i _ hx
    exact ⟨_, hos i _ (List.getElem?_eq_getElem (hlen ▸ hi)), by rw [getD_of hy]; exact hf⟩
  have hoget : ∀ i o, i < l.length → ops[i]? = some o → os.getD i default = o := by
    intro i o hi ho
    obtain ⟨o', ho'⟩ := hosl i hi
    have := hos i o' ho'
    rw [ho] at this; cases this
    exact getD_of ho'
  have hsz : l.length ≤ ops.size := by
    rcases Nat.eq_zero_or_pos l.length with h | h
    · omega
    · obtain ⟨o, ho⟩ := hosl (l.length - 1) (by omega)
      have := (Array.getElem?_eq_some_iff.1 (hos _ _ ho)).1
      omega
  simp only [okPreds, List.all_eq_true, List.mem_range, Bool.and_eq_true, List.any_eq_true, Bool.or_eq_true, beq_iff_eq, decide_eq_true_eq, List.contains_iff_mem] at ok1
  simp only [okOrder, List.all_eq_true, List.mem_range, Bool.and_eq_true, Bool.or_eq_true, Bool.not_eq_true', bne_iff_ne, ne_eq, List.contains_iff_mem, Option.isNone_iff_eq_none] at ok2
  simp only [okUses, List.all_eq_true, List.mem_range] at ok3
  simp only [okLooks, List.all_eq_true, List.mem_range, Bool.and_eq_true] at ok4
  refine ⟨⟨hsz, hdlen, fun i hi => ?_, fun i hi => ?_, fun i hi => ?_, fun i o hi ho j hj => ?_, fun i o hi ho p hp => ?_, fun i j hij hj h1 h2 => ?_, fun i j hij hj h1 h2 => ?_, fun i hi t j hu => ?_, fun i hi t hu j' hj' hd => ?_, fun i hi k adds hm a ha => ?_, fun i hi hc k hk => ?_, fun i hi hc => ?_⟩, hlen⟩
  · obtain ⟨o, ho, hd⟩ := hop i hi
    simp only [cDI, Option.map_eq_some_iff] at hd
    obtain ⟨g, hg, hd⟩ := hd
    exact ⟨o, ho, by unfold dstOf; rw [← hd], by rw [← hd]; exact hg, by rw [← hd]⟩
  · obtain ⟨x, hx, he⟩ : ∃ x, ds[i]? = some x ∧ x.dst = dstOf l i ∧ x.op = (l.getD i default).op ∧ x.guard = (l.getD i default).guard ∧ x.cls = clOf l i := by
      rw [← hds, List.getElem?_map, List.getElem?_range hi]
      exact ⟨_, rfl, rfl, rfl, rfl, rfl⟩
    rw [getD_of hx]
    exact he
  · obtain ⟨o, ho, hd⟩ := hop i hi
    simp only [cDI, Option.map_eq_some_iff] at hd
    obtain ⟨g, hg, hd⟩ := hd
    unfold clOf
    rw [← hd]
    simp only [clsOf]
    split
    · exact .inl rfl
    · split
      · exact .inr (.inl rfl)
      · exact .inr (.inr rfl)
  · have he := hoget i o hi ho
    exact (ok1 i hi).1 j (by rw [he]; exact hj)
  · have he := hoget i o hi ho
    obtain ⟨j, hj, hh⟩ := (ok1 i hi).2 p hp
    rw [he] at hj
    exact ⟨j, hj, hh⟩
  · rcases (ok2 j hj i hij).1 with (h | h) | h
    · exact absurd h h1
    · exact absurd h2 h
    · exact h
  · rcases (ok2 j hj i hij).2 with h | h
    · rw [show (l.getD i default).cls = 2 from h1, show (l.getD j default).cls = 2 from h2] at h; simp at h
    · exact h
  · have := ok3 i hi (t, some j) hu
    simp only [okUse, Bool.and_eq_true, List.all_eq_true, List.mem_range, Bool.or_eq_true, beq_iff_eq, decide_eq_true_eq, List.contains_iff_mem, bne_iff_ne, ne_eq] at this
    obtain ⟨⟨⟨g1, g2⟩, g3⟩, g4⟩ := this
    refine ⟨g1, g2, g3, fun j' hj' hd => ?_⟩
    rcases g4 j' hj' with ((h | h) | h) | h
    · exact absurd hd h
    · exact .inl h
    · exact .inr (.inl h)
    · exact .inr (.inr h)
  · have := ok3 i hi (t, none) hu
    simp only [okUse, List.all_eq_true, List.mem_range, Bool.or_eq_true, beq_iff_eq, List.contains_iff_mem, bne_iff_ne, ne_eq] at this
    rcases this j' hj' with (h | h) | h
    · exact absurd hd h
    · exact .inl h
    · exact .inr h
  · have := (ok4 i hi).1 (k, adds) hm
    simp only [okLook, List.all_eq_true, Bool.and_eq_true, beq_iff_eq, decide_eq_true_eq, List.contains_iff_mem, Bool.not_eq_true', ] at this
    obtain ⟨⟨⟨g1, g2⟩, g3⟩, g4⟩ := this a ha
    exact ⟨g1, g2, by simpa using g3, g4⟩
  · have := (ok4 i hi).2
    rw [if_pos (show (l.getD i default).cls = 0 from hc)] at this
    simp only [okSeen, List.all_eq_true, List.mem_range, Bool.or_eq_true, List.any_eq_true, Bool.and_eq_true, beq_iff_eq, decide_eq_true_eq, List.contains_iff_mem] at this
    rcases this k (by omega) with ⟨q, hq, h | h⟩ | ⟨p, hp, rfl⟩
    · exact .inl ⟨q, hq, h.1, h.2⟩
    · exact .inr (.inl ⟨q, hq, h.1, h.2⟩)
    · exact .inr (.inr ⟨p.2, hp⟩)
  · have := (ok4 i hi).2
    rw [if_neg (show ¬ (l.getD i default).cls = 0 by have : (l.getD i default).cls = 2 := hc; omega), if_neg (show ¬ (l.getD i default).cls = 1 by have : (l.getD i default).cls = 2 := hc; omega)] at this
    unfold okAct at this
    split at this
    · rename_i p hp
      simp only [Bool.and_eq_true, List.all_eq_true, List.mem_range, beq_iff_eq, decide_eq_true_eq] at this
      obtain ⟨⟨g1, g2⟩, g3⟩ := this
      refine ⟨p.1, p.2, hp, g1, g2, fun a ha => ?_⟩
      have := g3 a ha
      have h1 : (a ∈ inclOf l (p.1 + 1)) ↔ (inclOf l (p.1 + 1)).contains a = true := by simp
      rw [h1, this]
      simp
    · cases this

theorem drawOK_spec {P : Program} {ops : Array Oper} {ds : List DOp} {late : List Nat} (h : cDraw P ops = some (ds, late)) : ∃ l, DrawOK P ops l ds ∧ l.length = ops.size ∧ late = lateOf l := by
  simp only [cDraw] at h
  split at h
  · cases h
  rename_i l hl
  split at h
  rotate_left
  · cases h
  rename_i hok
  simp only [Option.some.injEq, Prod.mk.injEq] at h
  obtain ⟨hds, hlate⟩ := h
  rw [hds] at hok
  obtain ⟨G, hlen⟩ := drawOK_gen (ops := ops) (os := ops.toList) (fun i o h => by simpa using h) hl hds hok
  exact ⟨l, G, by simpa using hlen, hlate.symm⟩

theorem acts_count {l : List DI} {ds : List DOp} (hlen : ds.length = l.length) (hc : ∀ i, i < l.length → (ds.getD i default).cls = clOf l i) :
    ∀ q, q ≤ l.length → ((ds.take q).filter fun d => d.cls == 2).length = ((List.range q).filter fun i => (l.getD i default).cls == 2).length
  | 0, _ => rfl
  | q + 1, h => by
    rw [List.take_succ_eq_append_getElem (by omega), List.range_succ, List.filter_append, List.filter_append, List.length_append, List.length_append, acts_count hlen hc q (by omega)]
    have := hc q (by omega)
    rw [List.getD_eq_getElem?_getD, List.getElem?_eq_getElem (by omega), Option.getD_some] at this
    congr 1
    simp only [List.filter_cons, List.filter_nil]
    rw [this, show (l.getD q default).cls = clOf l q from rfl]
    split <;> rfl

section
variable {P : Program} {ops : Array Oper} {l : List DI} {ds : List DOp} {T0 : Tm} {s : DS} {base : Nat} {F : Nat → Prop} {μ0 : Mu} {H0 : Heap} {w0 : World} {df : List Deferred}

theorem draw_any {cal : Cal} (hcal : CalOK P cal) {fence : Fence} {rd : Bool} (hF : FenceOK fence rd) {n : Nat} {Q : Exit → Act → World → Prop} (G : DrawOK P ops l ds) (hlen : l.length = ops.size)
    (hop : ∀ i, i < l.length → OpS cal base T0 s i (ds.getD i default)) (hsame : ∀ i, i < l.length → sameLook base T0 s i (ds.getD i default) = true)
    (hQ : ∀ S k μ a w, (∀ j, j < l.length → S j = true) → Inv P l T0 s base F μ0 H0 w0 df S k μ a w → Q .normal a w) :
    ∀ (fuel : Nat) (listed : Array Bool) (k : Nat) (μ : Mu) (a : Act) (w : World), listed.size = l.length → cnt (fun j => listed.getD j false) l.length = fuel →
      Inv P l T0 s base F μ0 H0 w0 df (fun j => listed.getD j false) k μ a w → wpAnyIn fence n P .any ops Q fuel listed a w := by
  intro fuel
  induction fuel with
  | zero =>
    intro listed k μ a w hsz hcnt J
    have hall := cnt_zero _ hcnt
    refine ⟨?_, hQ _ k μ a w hall J⟩
    apply List.eq_nil_iff_forall_not_mem.2
    intro j hj
    have h0 := (mem_ready.1 hj).1
    have hlt : j < listed.size := by
      rcases Nat.lt_or_ge j listed.size with h | h
      · exact h
      · simp [Array.getElem?_eq_none h] at h0
    have := hall j (hsz ▸ hlt)
    simp [hlt] at h0 this
    rw [h0] at this; cases this
  | succ fuel ih =>
    intro listed k μ a w hsz hcnt J
    refine ⟨fun hr => ?_, fun i hi => ?_⟩
    · refine hQ _ k μ a w ?_ J
      intro j
      induction j using Nat.strongRecOn with
      | _ j hj =>
        intro hlt
        cases hS : listed.getD j false with
        | true => rfl
        | false =>
          exfalso
          obtain ⟨o, ho, _⟩ := G.op j hlt
          have : j ∈ Region.ready .any ops listed := by
            refine mem_ready.2 ⟨?_, o, ho, fun e he hb => ?_⟩
            · have : j < listed.size := by omega
              simp [this] at hS ⊢; exact hS
            · have hm : e.on ∈ bindsOf o := by
                unfold bindsOf
                exact List.mem_map.2 ⟨e, List.mem_filter.2 ⟨by simpa using he, hb⟩, rfl⟩
              have hlt' := G.back j o hlt ho _ hm
              exact hj e.on hlt' (by omega)
          rw [hr] at this; cases this
    · obtain ⟨h0, o, ho, hall⟩ := mem_ready.1 hi
      have hlt : i < listed.size := by
        rcases Nat.lt_or_ge i listed.size with h | h
        · exact h
        · simp [Array.getElem?_eq_none h] at h0
      have hS : listed.getD i false = false := by simp [hlt] at h0 ⊢; exact h0
      have hset : (fun j => (listed.setIfInBounds i true).getD j false) = add (fun j => listed.getD j false) i := by
        funext j
        by_cases e : j = i
        · subst e; simp [add, hlt]
        · rw [getD_set_ne false (Ne.symm e)]; simp [add, e]
      refine draw_step hcal hF J G (hop i (hsz ▸ hlt)) (sameAt_of (hsame i (hsz ▸ hlt)) k) (hsz ▸ hlt) hS (fun p hp => ?_) fun a' w' μ' k' J' => ?_
      · obtain ⟨j, hj, hh⟩ := G.pre i o (hsz ▸ hlt) ho p hp
        unfold bindsOf at hj
        obtain ⟨e, he, rfl⟩ := List.mem_map.1 hj
        rw [List.mem_filter] at he
        have hSj := hall e (by simpa using he.1) he.2
        rcases hh with rfl | hh
        · exact hSj
        · refine J.cl e.on ?_ hSj p hh
          have := G.back i o (hsz ▸ hlt) ho e.on (by unfold bindsOf; exact List.mem_map.2 ⟨e, List.mem_filter.2 he, rfl⟩)
          omega
      · refine ih _ k' μ' a' w' (by simp [hsz]) ?_ (hset ▸ J')
        rw [hset]
        have := cnt_add (S := fun j => listed.getD j false) hS l.length (hsz ▸ hlt)
        omega

theorem HR.of_heap {μ : Mu} {H : Heap} {w w' : World} (h : HR P μ F H w) (hw : w'.heap = w.heap) : HR P μ F H w' :=
  ⟨fun b L hb => hw ▸ h.dom b L hb, fun c hc => hw ▸ h.fb c hc, fun b e hb => let ⟨L, hL, hE⟩ := h.ent b e hb; ⟨L, hL, hE.mono (fun _ _ h => h) (fun _ h => h) (fun c _ => by rw [hw]) (by rw [hw]) (fun hr => hE.notF hr)⟩, h.inj, fun g cs hg => (h.gl g cs hg).mono (fun _ _ h => h) (fun _ h => h) fun c _ => by rw [hw]⟩

theorem draw_sound {cal : Cal} (hcal : CalOK P cal) (hm : P.follows .mixedOrders = true) {fence : Fence} {rd : Bool} (hF : FenceOK fence rd) {n id : Nat} {late : List Nat} {Q : Exit → Act → World → Prop} {T T' : Tm} {H H' : Heap} {μ : Mu} {a : Act} {w : World}
    (hc : cDraw P ops = some (ds, late)) (hrun : drawA cal ds late T H = some (T', H')) (hT : LR μ F w T a.tmps.toList) (hH : HR P μ F H w)
    (hQ : ∀ a' w' μ', a'.defers = a.defers → LR μ' F w' T' a'.tmps.toList → HR P μ' F H' w' → Stp NoI P μ F H w μ' F H' w' → Q .normal a' w') :
    (Code.region id ops true).wpIn fence n P Q a w := by
  obtain ⟨l, G, hlen, rfl⟩ := drawOK_spec hc
  unfold drawA at hrun
  split at hrun
  · cases hrun
  rename_i s hs
  split at hrun
  rotate_left
  · cases hrun
  rename_i hsame
  cases hrun
  have hcls : ∀ d ∈ ds, d.cls = 0 ∨ d.cls = 1 ∨ d.cls = 2 := by
    intro d hd
    obtain ⟨i, hi, rfl⟩ := List.getElem_of_mem hd
    have hi' : i < l.length := by rw [← G.dlen]; exact hi
    have h1 := G.cl i hi'
    rw [← (G.dso i hi').2.2.2, getD_of (List.getElem?_eq_getElem hi)] at h1
    exact h1
  obtain ⟨k1, k2, k3, k4, k5⟩ := drawGo_at ds 0 _ _ hcls hs
  have hcl : ∀ i, i < l.length → (ds.getD i default).cls = clOf l i := fun i hi => (G.dso i hi).2.2.2
  have hdi : ∀ i, i < l.length → ds[i]? = some (ds.getD i default) := by
    intro i hi
    have : i < ds.length := by rw [G.dlen]; exact hi
    rw [List.getElem?_eq_getElem this]
    simp [List.getD_eq_getElem?_getD, List.getElem?_eq_getElem this]
  have hVl : s.Vs.length = l.length := by rw [k2, G.dlen]; simp
  have hop : ∀ i, i < l.length → OpS cal H.next T s i (ds.getD i default) := by
    intro i hi
    obtain ⟨s1, s2, e1, e2, e3, e4, e5⟩ := k5 i _ (hdi i hi)
    rw [Nat.zero_add] at e1
    refine opS_of e1 e2 (hcls _ (List.mem_of_getElem? (hdi i hi))) (by simpa using e3) (by simpa using e4) (fun u hu j hj => ?_) (fun h2 k adds hl => ?_)
    · obtain ⟨t, u⟩ := u
      have hj : u = some j := hj
      subst hj
      exact (G.useS i hi t j hu).2.2.1
    · have hc2 : clOf l i = 2 := (hcl i hi) ▸ h2
      obtain ⟨kk, adds', hl', g1, g2, _⟩ := G.act i hi hc2
      rw [hl] at hl'; cases hl'
      refine ⟨?_, fun a ha => (G.look i hi k adds (by rw [hl]; exact List.mem_cons_self ..) a ha).2.2.2⟩
      rw [e5, acts_count G.dlen hcl i (by omega)]
      obtain ⟨q1, q2⟩ := acts_idx hi hc2
      have := acts_inj q1 g1 (q2.trans g2.symm)
      rw [this]
      simp; omega
  have hC0 : s.Cs.getD 0 default = { H with next := H.next + ds.length } := by rw [prefix_getD k1.2.1 (by simp)]; rfl
  have hCl : s.Cs.length = (actsOf l).length + 1 := by
    have := acts_count G.dlen hcl l.length (Nat.le_refl _)
    rw [List.take_of_length_le (by rw [G.dlen]; exact Nat.le_refl _)] at this
    rw [k4, this]; simp [actsOf]; omega
  obtain ⟨w1, hw1⟩ : ∃ w1, w1 = { w with drawn := w.drawn + 1 } := ⟨_, rfl⟩
  have hH1 : HR P μ F H w1 := hH.of_heap (by rw [hw1])
  have hB1 : HR P μ F (s.Cs.getD 0 default) w1 := by rw [hC0]; exact hH1.bump _
  have hst1 : Stp NoI P μ F H w μ F H w1 := by
    subst hw1
    exact ⟨fun _ _ h => h, fun _ h => h, Nat.le_refl _, fun _ _ _ => rfl, fun b L hb hL => .inr ⟨b, L, hb, hL, rfl⟩, Nat.le_refl _, fun _ _ _ h => h, fun b L h => .inl ⟨b, L, h, rfl⟩, fun b e h _ _ => ⟨e, h⟩, fun b e L h hL => .inr ⟨b, e, L, h, hL, rfl⟩, rfl, rfl, rfl⟩
  have hz : Hh l s H.next (fun _ => false) 0 = s.Cs.getD 0 default := by
    unfold Hh
    have : lst l (fun _ => false) 0 = [] := by simp [lst]
    rw [this]; rfl
  have hrep : ∀ j, (Array.replicate ops.size false).getD j false = false := by
    intro j
    rcases Nat.lt_or_ge j ops.size with h | h
    · simp [h]
    · simp [Array.getElem?_eq_none (show (Array.replicate ops.size false).size ≤ j by simpa using h)]
  have J0 : Inv P l T s H.next F μ (s.Cs.getD 0 default) w1 a.defers (fun j => (Array.replicate ops.size false).getD j false) 0 μ a w1 := by
    have hf : (fun j => (Array.replicate ops.size false).getD j false) = fun _ => false := funext hrep
    rw [hf]
    refine ⟨fun j _ h => (by cases h), Nat.zero_le _, fun q _ => (by simp), ?_, by rw [hz]; exact hB1, fun j hj _ _ => ?_, ?_, fun j hj _ => fresh_next hH (Nat.le_add_right _ _), by rw [hz]; exact Stp.refl _ _ _ _ _ _, rfl⟩
    · rw [TS_start]; exact LR.mono (w := w) (w' := w1) (fun _ _ h => h) (fun _ h => h) (fun _ _ => by rw [hw1]) hT
    · rw [hC0]
      cases hg : H.get (H.next + j) with
      | none => exact hg
      | some e =>
        obtain ⟨L, hL, _⟩ := hH.ent _ e hg
        rw [fresh_next hH (Nat.le_add_right _ _)] at hL; cases hL
    · rw [hC0, G.dlen]; exact Nat.le_refl _
  refine wpIn_region_any hm ?_
  rw [← hw1]
  refine draw_any hcal hF G hlen hop (fun i hi => ?_) (fun S k μ' a' w' hall J => ?_) ops.size _ 0 μ a w1 (by simp [hlen]) ?_ J0
  · have := sameLook_at ds 0 hsame i _ (hdi i hi)
    rwa [Nat.zero_add] at this
  · have hk : k = (actsOf l).length := by
      rcases Nat.lt_or_ge k (actsOf l).length with h | h
      · have := (J.act k h).1 (hall _ (acts_mem h).1); omega
      · have := J.kle; omega
    subst hk
    have hTS : TS l T s S = putAll T ds s.Vs := by
      rw [putAll_tv G.dlen hVl (fun i hi => (G.dso i hi).1)]
      unfold TS
      apply List.map_congr_left
      intro t _
      exact tv_congr _ hall
    have hlst : lst l S (actsOf l).length = lateOf l := by
      rw [← lst_all]
      unfold lst
      apply List.filter_congr
      intro x hx
      rw [hall x (by simpa using hx)]
    have hlast : s.Cs.getLastD default = s.Cs.getD (actsOf l).length default := by
      rw [List.getLastD_eq_getLast?, List.getLast?_eq_getElem?, hCl, List.getD_eq_getElem?_getD]; rfl
    have hHh : Hh l s H.next S (actsOf l).length = addE H.next s.Es (s.Cs.getLastD default) (lateOf l) := by
      unfold Hh; rw [hlst, hlast]
    have hhr := J.hr
    have hst := J.st
    rw [hHh] at hhr hst
    refine hQ a' w' μ' J.df (hTS ▸ J.tm) hhr (hst1.trans ?_)
    rw [hC0] at hst
    exact ⟨hst.mu, hst.fr, hst.size, hst.keep, hst.rw, Nat.le_trans (Nat.le_add_right _ _) hst.next, fun b hb _ hn => hst.new b (Nat.lt_of_lt_of_le hb (Nat.le_add_right _ _)) (by omega) hn, hst.rng, fun b e hb hl _ => hst.old b e hb (Nat.lt_of_lt_of_le hl (Nat.le_add_right _ _)) (by omega), hst.alv, hst.tape, hst.os, hst.out⟩
  · rw [cnt_all _ (fun j _ => hrep j), hlen]

end
end Go.Proofs.YtedembbgeljdkaaGreatDoor.Ev
