/-
  THE FAST EVALUATOR: regions whose order is open.
-/
import Derived.Test.YtedembbgeljdkaaGreatDoorEvFastOK
import Derived.Test.YtedembbgeljdkaaGreatDoorEvDraw3
namespace Go.Proofs.YtedembbgeljdkaaGreatDoor.Ev
open Go
set_option linter.all false

/-! ### What an operation answers hangs on its slots alone -/

section
variable {ev ev' : Src → AV}

theorem pureA_congr {op : AOp} (h : ∀ s, (∀ n ∈ srcT s, n ∈ op.slots) → ev s = ev' s) : pureA ev op = pureA ev' op := by
  cases op
  case build z ps =>
    have e : (ps.map fun p => (p.1, ev p.2)) = ps.map fun p => (p.1, ev' p.2) := List.map_congr_left fun p hp => by
      rw [h p.2 fun n hn => by simp only [AOp.slots, List.mem_flatMap]; exact ⟨p, hp, hn⟩]
    simp only [pureA, e]
  case mkfn f a b =>
    have e1 : a.map ev = a.map ev' := List.map_congr_left fun s hs => h s fun n hn => by simp only [AOp.slots, List.mem_append, List.mem_flatMap]; exact .inl ⟨s, hs, hn⟩
    have e2 : b.map ev = b.map ev' := List.map_congr_left fun s hs => h s fun n hn => by simp only [AOp.slots, List.mem_append, List.mem_flatMap]; exact .inr ⟨s, hs, hn⟩
    simp only [pureA, e1, e2]
  case min xs =>
    have e1 : xs.map ev = xs.map ev' := List.map_congr_left fun s hs => h s fun n hn => by simp only [AOp.slots, List.mem_flatMap]; exact ⟨s, hs, hn⟩
    simp only [pureA, e1]
  case max xs =>
    have e1 : xs.map ev = xs.map ev' := List.map_congr_left fun s hs => h s fun n hn => by simp only [AOp.slots, List.mem_flatMap]; exact ⟨s, hs, hn⟩
    simp only [pureA, e1]
  case slice size x a b c =>
    have ex := h x fun n hn => by simp [AOp.slots, hn]
    have e : ∀ o : Option Src, (∀ n ∈ oT o, n ∈ (AOp.slice size x a b c).slots) → o.map ev = o.map ev' := fun o ho => by
      cases o with
      | none => rfl
      | some s => simp only [Option.map_some]; rw [h s ho]
    simp only [pureA, ex, e a (fun n hn => by simp [AOp.slots, hn]), e b (fun n hn => by simp [AOp.slots, hn]), e c (fun n hn => by simp [AOp.slots, hn])]
  case sliceStr x a b =>
    have ex := h x fun n hn => by simp [AOp.slots, hn]
    have e : ∀ o : Option Src, (∀ n ∈ oT o, n ∈ (AOp.sliceStr x a b).slots) → o.map ev = o.map ev' := fun o ho => by
      cases o with
      | none => rfl
      | some s => simp only [Option.map_some]; rw [h s ho]
    simp only [pureA, ex, e a (fun n hn => by simp [AOp.slots, hn]), e b (fun n hn => by simp [AOp.slots, hn])]
  all_goals
    simp only [pureA]
    try (repeat rw [h _ (fun n hn => by simp [AOp.slots, hn])])

theorem heapA_congr {op : AOp} {H : Heap} {id : Nat} (h : ∀ s, (∀ n ∈ srcT s, n ∈ op.slots) → ev s = ev' s) : heapA ev H id op = heapA ev' H id op := by
  cases op
  case buildSlice ty size z len ps =>
    have e : (ps.map fun p => (p.1, ev p.2)) = ps.map fun p => (p.1, ev' p.2) := List.map_congr_left fun p hp => by
      rw [h p.2 fun n hn => by simp only [AOp.slots, List.mem_flatMap]; exact ⟨p, hp, hn⟩]
    simp only [heapA, e]
  case append size bytes ty z x y =>
    have e1 := h x fun n hn => by simp [AOp.slots, hn]
    have e2 := h y fun n hn => by simp [AOp.slots, hn]
    simp only [heapA, e1, e2]
  case mksl ty size bytes z x y =>
    have e1 := h x fun n hn => by simp [AOp.slots, hn]
    have e2 := h y fun n hn => by simp [AOp.slots, hn]
    simp only [heapA, e1, e2]
  case box ty x =>
    have e1 := h x fun n hn => by simp [AOp.slots, hn]
    simp only [heapA, e1]
  all_goals
    simp only [heapA]
    try (repeat rw [h _ (fun n hn => by simp [AOp.slots, hn])])

theorem opA_congr {op : AOp} {cal : Cal} {H : Heap} {id : Nat} (h : ∀ s, (∀ n ∈ srcT s, n ∈ op.slots) → ev s = ev' s) : opA cal ev H id op = opA cal ev' H id op := by
  cases op
  case call f args =>
    have e1 := h f fun n hn => by simp [AOp.slots, hn]
    have e2 : args.map ev = args.map ev' := List.map_congr_left fun s hs => h s fun n hn => by simp only [AOp.slots, List.mem_append, List.mem_flatMap]; exact .inr ⟨s, hs, hn⟩
    simp only [opA, e1, e2]
  all_goals
    simp only [opA]
    rw [pureA_congr h, heapA_congr h]
end

theorem ev_slots {op : AOp} {t t' : Tm} (h : ∀ n ∈ op.slots, getT t n = getT t' n) : ∀ s, (∀ n ∈ srcT s, n ∈ op.slots) → Src.ev t s = Src.ev t' s := by
  intro s hs
  cases s with
  | c v => rfl
  | t n => exact h n (hs n (by simp [srcT]))

/-! ### Slots, by the operation that has filled them -/

theorem useOf_at (T0 : Tm) (Vs : List AV) : ∀ (us : List (Nat × Option Nat)) (T : Tm) (n : Nat), n < T.length →
    getT (us.foldl (fun T u => T.set u.1 (useV T0 Vs u)) T) n = match useOf us n with | some u => useV T0 Vs (n, u) | none => getT T n
  | [], T, n, hn => rfl
  | u :: us, T, n, hn => by
    rw [List.foldl_cons, useOf_at T0 Vs us _ n (by rw [List.length_set]; exact hn)]
    simp only [useOf]
    cases h : useOf us n with
    | some x => rfl
    | none =>
      simp only
      by_cases e : u.1 = n
      · subst e
        rw [if_pos rfl]
        simp only [getT, List.getD_eq_getElem?_getD]
        rw [List.getElem?_set_self hn]
        rfl
      · rw [if_neg e]
        simp only [getT, List.getD_eq_getElem?_getD]
        rw [List.getElem?_set_ne e]

theorem useT_get {T0 : Tm} {Vs : List AV} {us : List (Nat × Option Nat)} {n : Nat} {u : Option Nat} (hn : n < T0.length) (h : useOf us n = some u) : getT (useT T0 Vs us) n = useV T0 Vs (n, u) := by
  unfold useT
  rw [useOf_at _ _ _ _ _ (by rw [List.length_replicate]; exact hn), h]

theorem putAll_get : ∀ (ds : List DOp) (Vs : List AV) (T : Tm) (n : Nat), Vs.length = ds.length → n < T.length →
    getT (putAll T ds Vs) n = useV T Vs (n, lastDst ds n)
  | [], [], T, n, _, hn => rfl
  | d :: ds, v :: vs, T, n, hl, hn => by
    simp only [putAll, lastDst]
    have hl : vs.length = ds.length := by simpa using hl
    have hlen : (putT T d.dst v).length = T.length := by cases d.dst <;> simp [putT]
    rw [putAll_get ds vs _ n hl (by rw [hlen]; exact hn)]
    cases h : lastDst ds n with
    | some j => simp [useV]
    | none =>
      simp only [useV]
      by_cases e : d.dst = some n
      · rw [if_pos e, e]
        simp only [putT, getT, List.getD_eq_getElem?_getD]
        rw [List.getElem?_set_self hn]
        rfl
      · rw [if_neg e]
        cases hd : d.dst with
        | none => rfl
        | some x =>
          simp only [putT, getT, List.getD_eq_getElem?_getD]
          rw [List.getElem?_set_ne (fun h => e (by rw [hd, h]))]

theorem lastDst_lt : ∀ (ds : List DOp) (n j : Nat), lastDst ds n = some j → j < ds.length
  | [], n, j, h => by cases h
  | d :: ds, n, j, h => by
    simp only [lastDst] at h
    split at h
    · rename_i j' hj
      cases h
      have := lastDst_lt ds n _ hj
      simp; omega
    · split at h
      · cases h; simp
      · cases h

theorem useV_pre {T : Tm} {Vs Vs' : List AV} {n : Nat} {u : Option Nat} (hp : Vs <+: Vs') (hu : ∀ j, u = some j → j < Vs.length) : useV T Vs' (n, u) = useV T Vs (n, u) := by
  cases u with
  | none => rfl
  | some j => exact prefix_getD hp (hu j rfl) _

theorem guard_congr {t t' : Tm} {g : Option (Nat × Bool)} (hl : t.length = t'.length) (h : ∀ n w, g = some (n, w) → n < t.length ∧ getT t n = getT t' n) : wantedA t g = wantedA t' g := by
  cases g with
  | none => rfl
  | some p =>
    obtain ⟨n, w⟩ := p
    obtain ⟨h1, h2⟩ := h n w rfl
    have e : t[n]? = t'[n]? := by
      simp only [getT, List.getD_eq_getElem?_getD] at h2
      rw [List.getElem?_eq_getElem h1, List.getElem?_eq_getElem (by omega : n < t'.length)] at h2 ⊢
      simpa using h2
    simp only [wantedA, e]

/-! ### The fast side's lists -/

theorem nthH_eq : ∀ (Cs : List Heap) (n : Nat), nthH Cs n = Cs.getD n default
  | [], n => rfl
  | a :: l, 0 => rfl
  | a :: l, n + 1 => by show nthH l n = _; rw [nthH_eq l n, List.getD_cons_succ]
theorem nthE_eq : ∀ (Es : List (Option Ent)) (n : Nat), nthE Es n = Es.getD n none
  | [], n => rfl
  | a :: l, 0 => rfl
  | a :: l, n + 1 => by show nthE l n = _; rw [nthE_eq l n, List.getD_cons_succ]

theorem rev_getD {α : Type} {l : List α} {k i : Nat} {d : α} (hl : l.length = i) (hk : k < i) : l.reverse.getD (i - 1 - k) d = l.getD k d := by
  rw [List.getD_eq_getElem?_getD, List.getD_eq_getElem?_getD, List.getElem?_reverse (by omega)]
  congr 2
  omega

theorem addF_eq {x i : Nat} {Es : List (Option Ent)} (hl : Es.length = i) : ∀ (adds : List Nat) (H : Heap), (∀ a ∈ adds, a < i) → addF x Es.reverse (revAdds i adds) H = addE x Es H adds
  | [], H, _ => rfl
  | a :: adds, H, h => by
    have e1 : addF x Es.reverse (revAdds i (a :: adds)) H = addF x Es.reverse (revAdds i adds) (@Option.rec Ent (fun _ => Heap) H (fun e => H.put (Nat.add x a) e) (nthE Es.reverse (i - 1 - a))) := rfl
    have e2 : addE x Es H (a :: adds) = addE x Es (match Es.getD a none with | some e => H.put (x + a) e | none => H) adds := rfl
    rw [e1, e2, addF_eq hl adds _ (fun b hb => h b (List.mem_cons_of_mem _ hb)), nthE_eq, rev_getD hl (h a (List.mem_cons_self ..))]
    cases Es.getD a none <;> rfl

theorem selH_eq {x i acts k : Nat} {adds : List Nat} {Cs : List Heap} {Es : List (Option Ent)} (hC : Cs.length = acts + 1) (hE : Es.length = i) (hk : k ≤ acts) (ha : ∀ a ∈ adds, a < i) :
    selH (acts - k) (revAdds i adds) x Cs.reverse Es.reverse = addE x Es (Cs.getD k default) adds := by
  unfold selH
  rw [nthH_eq, addF_eq hE _ _ ha]
  have e := rev_getD (d := (default : Heap)) hC (show k < acts + 1 by omega)
  rw [show acts - k = acts + 1 - 1 - k by omega, e]

theorem okP_spec {acts i : Nat} {p : Nat × List Nat} (h : okP acts i p = true) : p.1 ≤ acts ∧ ∀ a ∈ p.2, a < i := by
  unfold okP at h
  simp only [Bool.and_eq_true, List.all_eq_true] at h
  exact ⟨Nat.le_of_ble_eq_true h.1, fun a ha => Nat.le_of_ble_eq_true (h.2 a ha)⟩

mutual
theorem AV.beq_refl : ∀ (a : AV), AV.beq a a = true
  | .undef => rfl
  | .bool a => by simp [AV.beq]
  | .int k a => by simp [AV.beq]
  | .str a => by simp [AV.beq]
  | .nilPtr => rfl
  | .nilSl => rfl
  | .nilFn => rfl
  | .nilIf => rfl
  | .nilMap => rfl
  | .agg a => by simp only [AV.beq]; exact AV.beqs_refl a
  | .tup a => by simp only [AV.beq]; exact AV.beqs_refl a
  | .sl a n => by simp [AV.beq, AV.beqs_refl a]
  | .dp a n => by simp [AV.beq, AV.beqs_refl a]
  | .own .. => by simp [AV.beq]
  | .ptr .. => by simp [AV.beq]
  | .fn f a c => by simp [AV.beq, AV.beqs_refl a, AV.beqs_refl c]
  | .ifc t a => by simp [AV.beq, AV.beq_refl a]
  | .map a => by simp [AV.beq]
  | .loopv a => by simp [AV.beq]
theorem AV.beqs_refl : ∀ (a : List AV), AV.beqs a a = true
  | [] => rfl
  | x :: a => by simp only [AV.beqs, AV.beq_refl x, AV.beqs_refl a, Bool.and_self]
end

/-! ### One operation -/

structure DRel (nt : Nat) (T0 : Tm) (pre : List DOp) (acts : Nat) (T : Tq) (CsF : List Heap) (EsF : List (Option Ent)) (s : DS) : Prop where
  t : TRel nt T (putAll T0 pre s.Vs)
  c : CsF = s.Cs.reverse
  e : EsF = s.Es.reverse
  lv : s.Vs.length = pre.length
  le : s.Es.length = pre.length
  lc : s.Cs.length = acts + 1

theorem step_inv {cal : Cal} {id : Nat} {d : Option Nat} {op : AOp} {g : Option (Nat × Bool)} {t t' : Tm} {H H' : Heap} (h : stepA cal id ⟨d, op, g⟩ t H = some (t', H')) :
    (wantedA t g = some true ∧ ∃ v, opA cal (Src.ev t) H id op = some (v, H') ∧ t' = putT t d v) ∨ (wantedA t g = some false ∧ t' = putT t d (.tup []) ∧ H' = H) := by
  unfold stepA at h
  simp only [opsA] at h
  split at h
  · rename_i hw
    split at h
    · rename_i v H1 hv
      cases h
      exact .inl ⟨hw, v, hv, rfl⟩
    · cases h
  · rename_i hw
    cases h
    exact .inr ⟨hw, rfl, rfl⟩
  · cases h

structure Seen (nt : Nat) (T0 : Tm) (d : DOp) (u t : Tm) : Prop where
  lu : u.length = T0.length
  lt : t.length = T0.length
  at' : ∀ n ∈ d.slots, n < T0.length ∧ getT t n = getT u n

theorem Seen.guard {nt : Nat} {T0 : Tm} {d : DOp} {u t : Tm} (h : Seen nt T0 d u t) : wantedA t d.guard = wantedA u d.guard :=
  guard_congr (h.lt.trans h.lu.symm) fun n w e => by
    obtain ⟨h1, h2⟩ := h.at' n (by unfold DOp.slots; rw [e]; simp)
    exact ⟨by rw [h.lt]; exact h1, h2⟩
theorem Seen.ev {nt : Nat} {T0 : Tm} {d : DOp} {u t : Tm} (h : Seen nt T0 d u t) : ∀ s, (∀ n ∈ srcT s, n ∈ d.op.slots) → Src.ev t s = Src.ev u s :=
  ev_slots fun n hn => (h.at' n (by unfold DOp.slots; exact List.mem_append_left _ hn)).2

theorem seen_pre {nt : Nat} {T0 : Tm} {pre : List DOp} {d : DOp} {Vs Vs' : List AV} (hT0 : T0.length = nt) (hlv : Vs.length = pre.length) (hp : Vs <+: Vs')
    (hs : ∀ n ∈ d.slots, n < nt ∧ useOf d.uses n = some (lastDst pre n)) : Seen nt T0 d (useT T0 Vs' d.uses) (putAll T0 pre Vs) := by
  refine ⟨(useT_at _ _ _).1, putAll_len _ _ _, fun n hn => ?_⟩
  obtain ⟨h1, h2⟩ := hs n hn
  rw [← hT0] at h1
  refine ⟨h1, ?_⟩
  rw [useT_get h1 h2, putAll_get _ _ _ _ hlv h1]
  exact (useV_pre hp fun j hj => by rw [hlv]; exact lastDst_lt _ _ _ hj).symm

theorem okD1_slots {nt total acts i : Nat} {ds : List DOp} {d : DOp} (h : okD1 nt ds total acts i d = true) : ∀ n ∈ d.slots, n < nt ∧ useOf d.uses n = some (lastDst (ds.take i) n) := by
  unfold okD1 at h
  simp only [Bool.and_eq_true, List.all_eq_true] at h
  intro n hn
  have := h.1 n hn
  exact ⟨Nat.le_of_ble_eq_true this.1, of_decide_eq_true this.2⟩

theorem pure_op {op : AOp} {cal : Cal} {ev : Src → AV} {H H' : Heap} {id : Nat} {v : AV} (hp : op.isPure = true) (h : opA cal ev H id op = some (v, H')) : pureA ev op = some v := by
  cases op <;> simp only [AOp.isPure] at hp <;> first | (cases hp; done) | skip
  all_goals
    simp only [opA] at h
    split at h
    · rename_i u hu
      cases h
      exact hu
    · simp [heapA] at h

theorem look_op {op : AOp} {cal : Cal} {T : Tm} {H H' : Heap} {id : Nat} {v : AV} (hp : op.looks = true) (h : opA cal (Src.ev T) H id op = some (v, H')) : pureA (Src.ev T) op = none ∧ heapA (Src.ev T) H 0 op = some (v, H) := by
  have h1 : pureA (Src.ev T) op = none := by cases op <;> simp only [AOp.looks] at hp <;> first | (cases hp; done) | rfl
  refine ⟨h1, looks_any (fun b e hb => hb) hp (D := H) (D' := H') (i := id) ?_⟩
  cases op <;> simp only [AOp.looks] at hp <;> first | (cases hp; done) | skip
  all_goals
    simp only [opA, h1] at h
    exact h

theorem make_op {op : AOp} {cal : Cal} {T : Tm} {H H' : Heap} {id : Nat} {v : AV} (hp : op.makes = true) (h : opA cal (Src.ev T) H id op = some (v, H')) : heapA (Src.ev T) H id op = some (v, H') := by
  have h1 : pureA (Src.ev T) op = none := by cases op <;> simp only [AOp.makes] at hp <;> first | (cases hp; done) | rfl
  cases op <;> simp only [AOp.makes] at hp <;> first | (cases hp; done) | skip
  all_goals
    simp only [opA, h1] at h
    exact h

theorem Tr.nil_get0 (b : Nat) : Tr.nil.get b = none := by
  have : ∀ {α : Type} (d : D8) (x : α), Q.at d (Q.all x) = x := fun d x => by cases d <;> rfl
  unfold Tr.get Tr.nil
  cases Nat.ble b 16777215 with
  | false => rfl
  | true => simp only [this]

theorem Tr.nil_get (n b : Nat) : Heap.get (Heap.nil n) b = none := by
  have h : Nat.ble (Nat.succ b) 0 = false := rfl
  unfold Heap.nil Heap.get
  simp only [h]
  exact Tr.nil_get0 b

theorem step1 {calF : CalK} {calA : Cal} (hc : CalRel calF calA) {nt total acts i x : Nat} {T0 : Tm} {ds : List DOp} {d : DOp} (hi : (ds.take i).length = i) (hok : okD1 nt ds total acts i d = true) (hT0 : T0.length = nt)
    {T : Tq} {CsF : List Heap} {EsF : List (Option Ent)} {s : DS} (hR : DRel nt T0 (ds.take i) acts T CsF EsF s) {n : DK} {r : AV × Heap} (hr : denD1 nt acts i d calF x T CsF EsF n = some r) :
    ∃ s' T', drawOp calA x T0 i d s = some s' ∧ DRel nt T0 (ds.take i ++ [d]) (if d.cls = 2 then acts + 1 else acts) T' s'.Cs.reverse s'.Es.reverse s' ∧ n T' s'.Cs.reverse s'.Es.reverse = some r := by
  have hslots := okD1_slots hok
  have hS := seen_pre hT0 hR.lv (List.prefix_rfl) hslots
  have hgd := hS.guard
  have hop : ∀ (H : Heap) (id : Nat), opA calA (Src.ev (putAll T0 (ds.take i) s.Vs)) H id d.op = opA calA (Src.ev (useT T0 s.Vs d.uses)) H id d.op := fun H id => opA_congr hS.ev
  have run : ∀ {Hk : Heap} {K : K1}, denOp nt i ⟨d.dst, d.op, d.guard⟩ calF x T Hk K = some r →
      ∃ v H' T', TRel nt T' (putAll T0 (ds.take i ++ [d]) (s.Vs ++ [v])) ∧ K T' H' = some r ∧
        ((wantedA (useT T0 s.Vs d.uses) d.guard = some true ∧ opA calA (Src.ev (useT T0 s.Vs d.uses)) Hk (x + i) d.op = some (v, H')) ∨
         (wantedA (useT T0 s.Vs d.uses) d.guard = some false ∧ v = .tup [] ∧ H' = Hk)) := by
    intro Hk K hr
    obtain ⟨t', H', T', h1, h2, h3⟩ := impO_den ⟨d.dst, d.op, d.guard⟩ calF calA hc T _ Hk K x r hR.t hr
    rcases step_inv h1 with ⟨hw, v, hv, e⟩ | ⟨hw, e, e2⟩
    · refine ⟨v, H', T', ?_, h3, .inl ⟨hgd ▸ hw, by rw [← hop]; exact hv⟩⟩
      rw [putAll_snoc _ _ _ _ _ hR.lv.symm, ← e]; exact h2
    · refine ⟨.tup [], H', T', ?_, h3, .inr ⟨hgd ▸ hw, rfl, e2⟩⟩
      rw [putAll_snoc _ _ _ _ _ hR.lv.symm, ← e]; exact h2
  have hle : s.Es.length = i := hR.le.trans hi
  have hok2 := hok
  unfold okD1 at hok2
  simp only [Bool.and_eq_true] at hok2
  obtain ⟨-, hok2⟩ := hok2
  unfold denD1 at hr
  rw [hR.c, hR.e] at hr
  have h3 : d.cls = 0 ∨ d.cls = 1 ∨ d.cls = 2 := by
    split at hok2
    · rename_i h; exact .inl h
    · rename_i h; exact .inr (.inl h)
    · rename_i h; exact .inr (.inr h)
    · cases hok2
  rcases h3 with hcls | hcls | hcls
  · simp only [hcls] at hok2 hr
    have h20 : ¬ (d.cls = 2) := by rw [hcls]; decide
    have fin : ∀ v T', TRel nt T' (putAll T0 (ds.take i ++ [d]) (s.Vs ++ [v])) → DRel nt T0 (ds.take i ++ [d]) (if d.cls = 2 then acts + 1 else acts) T' s.Cs.reverse (s.Es ++ [none]).reverse ⟨s.Vs ++ [v], s.Cs, s.Es ++ [none]⟩ := fun v T' hT' =>
      ⟨hT', rfl, rfl, by simp [hR.lv], by simp [hR.le], by rw [if_neg h20]; exact hR.lc⟩
    have erev : (s.Es ++ [none]).reverse = none :: s.Es.reverse := by simp
    by_cases hlook : d.op.looks = true
    · rw [if_pos hlook] at hok2 hr
      cases hl : d.looks with
      | nil => simp [hl] at hok2
      | cons p ps =>
        simp only [hl] at hok2 hr
        rw [Bool.and_eq_true] at hok2
        obtain ⟨hp1, hp2⟩ := okP_spec hok2.1
        unfold dl at hr
        rw [selH_eq hR.lc hle hp1 hp2] at hr
        obtain ⟨v, H', T', hT', hk, hv⟩ := run hr
        refine ⟨⟨s.Vs ++ [v], s.Cs, s.Es ++ [none]⟩, T', ?_, fin v T' hT', by rw [erev]; exact hk⟩
        rcases hv with ⟨hw, hv⟩ | ⟨hw, rfl, -⟩
        · obtain ⟨g1, g2⟩ := look_op hlook hv
          simp only [drawOp, hw, hcls, g1, hl, hlook, if_true, g2]
        · simp only [drawOp, hw, hcls]
    · rw [if_neg hlook] at hok2 hr
      unfold dl at hr
      obtain ⟨v, H', T', hT', hk, hv⟩ := run hr
      refine ⟨⟨s.Vs ++ [v], s.Cs, s.Es ++ [none]⟩, T', ?_, fin v T' hT', by rw [erev]; exact hk⟩
      rcases hv with ⟨hw, hv⟩ | ⟨hw, rfl, -⟩
      · simp only [drawOp, hw, hcls, pure_op hok2 hv]
      · simp only [drawOp, hw, hcls]
  · simp only [hcls] at hok2 hr
    have h20 : ¬ (d.cls = 2) := by rw [hcls]; decide
    unfold dm at hr
    obtain ⟨v, H', T', hT', hk, hv⟩ := run hr
    refine ⟨⟨s.Vs ++ [v], s.Cs, s.Es ++ [H'.get (x + i)]⟩, T', ?_, ⟨hT', rfl, rfl, by simp [hR.lv], by simp [hR.le], by rw [if_neg h20]; exact hR.lc⟩, by simp only [List.reverse_append, List.reverse_cons, List.reverse_nil, List.nil_append, List.singleton_append]; exact hk⟩
    rcases hv with ⟨hw, hv⟩ | ⟨hw, rfl, rfl⟩
    · simp only [drawOp, hw, hcls, hok2, if_true, make_op hok2 hv]
    · simp only [drawOp, hw, hcls, Tr.nil_get]
  · simp only [hcls] at hok2 hr
    cases hl : d.looks with
    | nil => simp [hl] at hok2
    | cons p ps =>
    cases ps with
    | cons p' ps => simp [hl] at hok2
    | nil =>
      simp only [hl] at hok2 hr
      obtain ⟨hp1, hp2⟩ := okP_spec hok2
      obtain ⟨k, adds⟩ := p
      unfold da at hr
      rw [selH_eq hR.lc hle hp1 hp2] at hr
      obtain ⟨v, H', T', hT', hk, hv⟩ := run hr
      refine ⟨⟨s.Vs ++ [v], s.Cs ++ [H'], s.Es ++ [none]⟩, T', ?_, ⟨hT', rfl, rfl, by simp [hR.lv], by simp [hR.le], by rw [if_pos hcls]; simp [hR.lc]⟩, by simp only [List.reverse_append, List.reverse_cons, List.reverse_nil, List.nil_append, List.singleton_append]; exact hk⟩
      rcases hv with ⟨hw, hv⟩ | ⟨hw, rfl, rfl⟩
      · simp only [drawOp, hw, hcls, hl, hv]
      · simp only [drawOp, hw, hcls, hl]

/-! ### All of them -/

theorem take_snoc {ds : List DOp} {i : Nat} {d : DOp} {rest : List DOp} (h : ds.drop i = d :: rest) : ds.take i ++ [d] = ds.take (i + 1) ∧ ds.drop (i + 1) = rest ∧ i < ds.length ∧ ds[i]? = some d := by
  have hi : i < ds.length := by
    rcases Nat.lt_or_ge i ds.length with h' | h'
    · exact h'
    · rw [List.drop_eq_nil_of_le h'] at h; cases h
  have h2 := List.drop_eq_getElem_cons hi
  rw [h] at h2
  simp only [List.cons.injEq] at h2
  exact ⟨by rw [List.take_succ_eq_append_getElem hi, h2.1], h2.2.symm, hi, by rw [List.getElem?_eq_getElem hi, h2.1]⟩

theorem stepAll {calF : CalK} {calA : Cal} (hc : CalRel calF calA) {nt total x : Nat} {T0 : Tm} {ds : List DOp} (hT0 : T0.length = nt) :
    ∀ (rest : List DOp) (acts i : Nat) (T : Tq) (CsF : List Heap) (EsF : List (Option Ent)) (s : DS) (n : DK) (r : AV × Heap), ds.drop i = rest → i ≤ ds.length → okDs nt ds total acts i rest = true →
      DRel nt T0 (ds.take i) acts T CsF EsF s → denD nt acts i rest calF x T CsF EsF n = some r →
      ∃ s' T', drawGo calA x T0 i rest s = some s' ∧ DRel nt T0 ds (acts + (rest.filter fun d => d.cls == 2).length) T' s'.Cs.reverse s'.Es.reverse s' ∧ n T' s'.Cs.reverse s'.Es.reverse = some r
  | [], acts, i, T, CsF, EsF, s, n, r, hd, hi, hok, hR, hr => by
    have hlen : ds.length ≤ i := List.drop_eq_nil_iff.1 hd
    rw [List.take_of_length_le hlen] at hR
    have hr : n T CsF EsF = some r := hr
    have e1 := hR.c
    have e2 := hR.e
    subst e1
    subst e2
    exact ⟨s, T, rfl, by simpa using hR, hr⟩
  | d :: rest, acts, i, T, CsF, EsF, s, n, r, hd, hi, hok, hR, hr => by
    obtain ⟨g1, g2, g3, g4⟩ := take_snoc hd
    simp only [okDs, Bool.and_eq_true] at hok
    have hr : denD1 nt acts i d calF x T CsF EsF (fun T Cs Es => denD nt (if d.cls = 2 then acts + 1 else acts) (i + 1) rest calF x T Cs Es n) = some r := hr
    obtain ⟨s1, T1, h1, h2, h3⟩ := step1 hc (by rw [List.length_take]; omega) hok.1 hT0 hR hr
    rw [g1] at h2
    obtain ⟨s2, T2, k1, k2, k3⟩ := stepAll hc hT0 rest _ (i + 1) T1 _ _ s1 n r g2 (by omega) hok.2 h2 h3
    refine ⟨s2, T2, by simp only [drawGo, h1]; exact k1, ?_, k3⟩
    have e : acts + ((d :: rest).filter fun d => d.cls == 2).length = (if d.cls = 2 then acts + 1 else acts) + (rest.filter fun d => d.cls == 2).length := by
      rw [List.filter_cons]
      by_cases hd2 : d.cls = 2
      · simp [hd2]; omega
      · simp [hd2]
    rw [e]
    exact k2

theorem okDs_at {nt total : Nat} {ds : List DOp} : ∀ (rest : List DOp) (acts i : Nat), okDs nt ds total acts i rest = true → ∀ (q : Nat) (d : DOp), rest[q]? = some d → ∃ acts', acts' = acts + ((rest.take q).filter fun d => d.cls == 2).length ∧ okD1 nt ds total acts' (i + q) d = true
  | [], acts, i, h, q, d, hq => by simp at hq
  | d0 :: rest, acts, i, h, q, d, hq => by
    simp only [okDs, Bool.and_eq_true] at h
    cases q with
    | zero => simp at hq; subst hq; exact ⟨acts, by simp, h.1⟩
    | succ q =>
      obtain ⟨a', e, h'⟩ := okDs_at rest _ _ h.2 q d (by simpa using hq)
      refine ⟨a', ?_, by rw [show i + (q + 1) = i + 1 + q by omega]; exact h'⟩
      rw [e, List.take_succ_cons, List.filter_cons]
      by_cases hd2 : d0.cls = 2
      · simp [hd2]; omega
      · simp [hd2]

theorem okD1_cls {nt total acts i : Nat} {ds : List DOp} {d : DOp} (h : okD1 nt ds total acts i d = true) : d.cls = 0 ∨ d.cls = 1 ∨ d.cls = 2 := by
  unfold okD1 at h
  simp only [Bool.and_eq_true] at h
  have hok2 := h.2
  split at hok2
  · rename_i h; exact .inl h
  · rename_i h; exact .inr (.inl h)
  · rename_i h; exact .inr (.inr h)
  · cases hok2

theorem ckTail {calF : CalK} {calA : Cal} (hc : CalRel calF calA) {nt total x i : Nat} {T0 : Tm} {ds : List DOp} {d : DOp} {xd : Nat} (hd : ds[i]? = some d) (hT0 : T0.length = nt) {T : Tq} {s : DS}
    (hR : DRel nt T0 ds total T s.Cs.reverse s.Es.reverse s) (hS : Seen nt T0 d (useT T0 s.Vs d.uses) (putAll T0 ds s.Vs)) (hlook : d.op.looks = true) (hdst : d.dst = some xd) (hx : xd < nt) (hlast : lastDst ds xd = some i)
    (hw : wantedA (useT T0 s.Vs d.uses) d.guard = some true) :
    ∀ (ps : List (Nat × List Nat)) (c : CKC) (k : R) (r : AV × Heap), (∀ p ∈ ps, okP total ds.length p = true) → denCk1 nt total ds.length i d ps c calF x T s.Cs.reverse s.Es.reverse k = some r →
      (∀ p ∈ ps, ∃ v H', heapA (Src.ev (useT T0 s.Vs d.uses)) (addE x s.Es (s.Cs.getD p.1 default) p.2) 0 d.op = some (v, H') ∧ AV.beq v (s.Vs.getD i .undef) = true) ∧ c calF x T s.Cs.reverse s.Es.reverse k = some r
  | [], c, k, r, _, hr => ⟨fun p hp => (by cases hp), hr⟩
  | p :: ps, c, k, r, hps, hr => by
    have hr : denOp nt i ⟨d.dst, d.op, d.guard⟩ calF x T (selH (total - p.1) (revAdds ds.length p.2) x s.Cs.reverse s.Es.reverse) (fun T' _ => @Bool.rec (fun _ => R) none (denCk1 nt total ds.length i d ps c calF x T s.Cs.reverse s.Es.reverse k) (AV.beq (gtN (d.dst.getD 0) T') (gtN (d.dst.getD 0) T))) = some r := hr
    obtain ⟨hp1, hp2⟩ := okP_spec (hps p (List.mem_cons_self ..))
    rw [selH_eq hR.lc hR.le hp1 hp2] at hr
    obtain ⟨t', H', T', h1, h2, h3⟩ := impO_den ⟨d.dst, d.op, d.guard⟩ calF calA hc T _ _ _ x r hR.t hr
    rcases step_inv h1 with ⟨-, v, hv, e⟩ | ⟨hw', -, -⟩
    · rw [opA_congr hS.ev] at hv
      obtain ⟨-, g2⟩ := look_op hlook hv
      obtain ⟨b1, b2⟩ := boolK_some h3
      rw [hdst, Option.getD_some, h2.gt, hR.t.gt, e, hdst] at b1
      have e1 : getT (putT (putAll T0 ds s.Vs) (some xd) v) xd = v := by
        simp only [putT, getT, List.getD_eq_getElem?_getD]
        rw [List.getElem?_set_self (by rw [putAll_len]; omega)]
        rfl
      have e2 : getT (putAll T0 ds s.Vs) xd = s.Vs.getD i .undef := by
        rw [putAll_get _ _ _ _ hR.lv (by omega), hlast]; rfl
      rw [e1, e2] at b1
      obtain ⟨k1, k2⟩ := ckTail hc hd hT0 hR hS hlook hdst hx hlast hw ps c k r (fun q hq => hps q (List.mem_cons_of_mem _ hq)) b2
      refine ⟨fun q hq => ?_, k2⟩
      rcases List.mem_cons.1 hq with rfl | hq
      · exact ⟨v, _, g2, b1⟩
      · exact k1 q hq
    · rw [hS.guard, hw] at hw'; cases hw'

theorem ckSkip {calF : CalK} {calA : Cal} (hc : CalRel calF calA) {nt total x i : Nat} {T0 : Tm} {ds : List DOp} {d : DOp} {T : Tq} {s : DS}
    (hR : DRel nt T0 ds total T s.Cs.reverse s.Es.reverse s) :
    ∀ (ps : List (Nat × List Nat)) (c : CKC) (k : R) (r : AV × Heap), denCk1 nt total ds.length i d ps c calF x T s.Cs.reverse s.Es.reverse k = some r → c calF x T s.Cs.reverse s.Es.reverse k = some r
  | [], c, k, r, hr => hr
  | p :: ps, c, k, r, hr => by
    have hr : denOp nt i ⟨d.dst, d.op, d.guard⟩ calF x T (selH (total - p.1) (revAdds ds.length p.2) x s.Cs.reverse s.Es.reverse) (fun T' _ => @Bool.rec (fun _ => R) none (denCk1 nt total ds.length i d ps c calF x T s.Cs.reverse s.Es.reverse k) (AV.beq (gtN (d.dst.getD 0) T') (gtN (d.dst.getD 0) T))) = some r := hr
    obtain ⟨t', H', T', h1, h2, h3⟩ := impO_den ⟨d.dst, d.op, d.guard⟩ calF calA hc T _ _ _ x r hR.t hr
    exact ckSkip hc hR ps c k r (boolK_some h3).2

theorem ckAll {calF : CalK} {calA : Cal} (hc : CalRel calF calA) {nt x : Nat} {T0 : Tm} {ds : List DOp} (hT0 : T0.length = nt) {T : Tq} {s s0 : DS} (hok : okDs nt ds (actsN ds) 0 0 ds = true)
    (hgo : drawGo calA x T0 0 ds s0 = some s) (hs0 : s0.Vs.length = 0 ∧ s0.Es.length = 0 ∧ s0.Cs.length = 1) (hR : DRel nt T0 ds (actsN ds) T s.Cs.reverse s.Es.reverse s) :
    ∀ (rest : List DOp) (i : Nat) (k : R) (r : AV × Heap), ds.drop i = rest → denCk nt (actsN ds) ds.length i rest calF x T s.Cs.reverse s.Es.reverse k = some r → sameLooks x T0 s i rest = true ∧ k = some r
  | [], i, k, r, _, hr => ⟨rfl, hr⟩
  | d :: rest, i, k, r, hd, hr => by
    obtain ⟨g1, g2, g3, g4⟩ := take_snoc hd
    have hcl : ∀ d ∈ ds, d.cls = 0 ∨ d.cls = 1 ∨ d.cls = 2 := fun d hd => by
      obtain ⟨q, hq⟩ := List.mem_iff_getElem?.1 hd
      obtain ⟨a', -, h'⟩ := okDs_at _ _ _ hok q d hq
      exact okD1_cls h'
    obtain ⟨p1, p2, p3, p4, p5⟩ := drawGo_at ds 0 s0 s hcl hgo
    obtain ⟨s1, s2, q1, q2, q3, q4, q5⟩ := p5 i d g4
    rw [Nat.zero_add] at q1
    obtain ⟨acts, ea, hok1⟩ := okDs_at _ _ _ hok i d g4
    rw [Nat.zero_add] at ea hok1
    have hslots := okD1_slots hok1
    have hg := drawOp_grow q1 (hcl d (List.mem_iff_getElem?.2 ⟨i, g4⟩))
    have hp1 : Pre s1 s := hg.1.trans q2
    have hS1 := seen_pre (nt := nt) (Vs := s1.Vs) (Vs' := s1.Vs) (d := d) (pre := ds.take i) hT0 (by rw [q3, List.length_take]; omega) List.prefix_rfl hslots
    have hS2 := seen_pre (nt := nt) (Vs := s1.Vs) (Vs' := s.Vs) (d := d) (pre := ds.take i) hT0 (by rw [q3, List.length_take]; omega) hp1.1 hslots
    have hgd : wantedA (useT T0 s1.Vs d.uses) d.guard = wantedA (useT T0 s.Vs d.uses) d.guard := hS1.guard.symm.trans hS2.guard
    have hev : ∀ z, (∀ n ∈ srcT z, n ∈ d.op.slots) → Src.ev (useT T0 s1.Vs d.uses) z = Src.ev (useT T0 s.Vs d.uses) z := fun z hz => (hS1.ev z hz).symm.trans (hS2.ev z hz)
    have hpc : pureA (Src.ev (useT T0 s1.Vs d.uses)) d.op = pureA (Src.ev (useT T0 s.Vs d.uses)) d.op := pureA_congr hev
    have hhc : ∀ H id, heapA (Src.ev (useT T0 s1.Vs d.uses)) H id d.op = heapA (Src.ev (useT T0 s.Vs d.uses)) H id d.op := fun H id => heapA_congr hev
    have hok2 := hok1
    unfold okD1 at hok2
    simp only [Bool.and_eq_true] at hok2
    obtain ⟨-, hok2⟩ := hok2
    simp only [denCk] at hr
    simp only [sameLooks, Bool.and_eq_true]
    by_cases hcond : d.cls = 0 ∧ d.op.looks = true
    · rw [if_pos hcond] at hr
      obtain ⟨hcls, hlook⟩ := hcond
      simp only [hcls, if_pos hlook] at hok2
      cases hl : d.looks with
      | nil => simp [hl] at hok2
      | cons p ps =>
      simp only [hl, Bool.and_eq_true, Bool.or_eq_true] at hok2
      rw [hl, List.tail_cons] at hr
      cases hw : wantedA (useT T0 s.Vs d.uses) d.guard with
      | none =>
        rw [hw] at hgd
        simp only [drawOp, hgd] at q1
        cases q1
      | some b =>
      cases b with
      | false =>
        obtain ⟨k1, k2⟩ := ckAll hc hT0 hok hgo hs0 hR rest (i + 1) k r g2 (ckSkip hc hR ps _ _ _ hr)
        refine ⟨⟨?_, k1⟩, k2⟩
        unfold sameLook
        simp only [hcls, hw]
      | true =>
        have hpn : pureA (Src.ev (useT T0 s.Vs d.uses)) d.op = none := by cases hop : d.op <;> rw [hop] at hlook <;> simp only [AOp.looks] at hlook <;> first | (cases hlook; done) | rfl
        obtain ⟨o1, o2⟩ := okP_spec hok2.1
        -- the first look is what the evaluator took
        have first : ∃ H', heapA (Src.ev (useT T0 s.Vs d.uses)) (addE x s.Es (s.Cs.getD p.1 default) p.2) 0 d.op = some (s.Vs.getD i .undef, H') := by
          rw [hw] at hgd
          rw [hpn] at hpc
          simp only [drawOp, hgd, hcls, hpc, hl, hlook, if_true] at q1
          rw [hhc] at q1
          split at q1
          · rename_i v H' hv
            cases q1
            have hadd : addE x s1.Es (s1.Cs.getD p.1 default) p.2 = addE x s.Es (s.Cs.getD p.1 default) p.2 := by
              rw [prefix_getD hp1.2.1 (by omega) default]
              exact addE_congr _ _ _ fun a hm => (prefix_getD hp1.2.2 (by have := o2 a hm; omega) _).symm
            rw [hadd] at hv
            have : s.Vs.getD i .undef = v := by
              have h5 := q2.1
              have h6 : s1.Vs.length = i := by omega
              rw [← h6]; exact prefix_at h5 _
            rw [this]
            exact ⟨H', hv⟩
          · cases q1
        have rest' : (∀ p ∈ ps, ∃ v H', heapA (Src.ev (useT T0 s.Vs d.uses)) (addE x s.Es (s.Cs.getD p.1 default) p.2) 0 d.op = some (v, H') ∧ AV.beq v (s.Vs.getD i .undef) = true) ∧ denCk nt (actsN ds) ds.length (i + 1) rest calF x T s.Cs.reverse s.Es.reverse k = some r := by
          rcases hok2.2 with he | ⟨⟨h6, h7⟩, h8⟩
          · have : ps = [] := by simpa using he
            subst this
            exact ⟨fun p hp => (by cases hp), hr⟩
          · cases hdst : d.dst with
            | none => rw [hdst] at h8; cases h8
            | some xd =>
              rw [hdst] at h8
              simp only [Bool.and_eq_true] at h8
              have hx : xd < nt := Nat.le_of_ble_eq_true h8.1
              have hlast := of_decide_eq_true h8.2
              have hSe : Seen nt T0 d (useT T0 s.Vs d.uses) (putAll T0 ds s.Vs) := by
                refine ⟨(useT_at _ _ _).1, putAll_len _ _ _, fun n hn => ?_⟩
                obtain ⟨z1, z2⟩ := hslots n hn
                rw [← hT0] at z1
                have z3 : lastDst ds n = lastDst (ds.take i) n := of_decide_eq_true (List.all_eq_true.1 h7 n hn)
                exact ⟨z1, by rw [useT_get z1 z2, putAll_get _ _ _ _ hR.lv z1, z3]⟩
              exact ckTail hc g4 hT0 hR hSe hlook hdst hx hlast hw ps _ _ _ (fun p hp => List.all_eq_true.1 h6 p hp) hr
        obtain ⟨k1, k2⟩ := ckAll hc hT0 hok hgo hs0 hR rest (i + 1) k r g2 rest'.2
        refine ⟨⟨?_, k1⟩, k2⟩
        unfold sameLook
        simp only [hcls, hw, hpn, hl, List.all_cons, Bool.and_eq_true, List.all_eq_true]
        obtain ⟨H', hH'⟩ := first
        refine ⟨by rw [hH']; exact AV.beq_refl _, fun p hp => ?_⟩
        obtain ⟨v, H2, h9, h10⟩ := rest'.1 p hp
        rw [h9]; exact h10
    · rw [if_neg hcond] at hr
      obtain ⟨k1, k2⟩ := ckAll hc hT0 hok hgo hs0 hR rest (i + 1) k r g2 hr
      refine ⟨⟨?_, k1⟩, k2⟩
      unfold sameLook
      by_cases hcls : d.cls = 0
      · have hlook : d.op.looks = false := by
          cases h : d.op.looks with
          | false => rfl
          | true => exact absurd ⟨hcls, h⟩ hcond
        cases hw : wantedA (useT T0 s.Vs d.uses) d.guard with
        | none => simp only [hcls]
        | some b =>
        cases b with
        | false => simp only [hcls]
        | true =>
          cases hpv : pureA (Src.ev (useT T0 s.Vs d.uses)) d.op with
          | some v => simp only [hcls]
          | none =>
            exfalso
            rw [hw] at hgd
            rw [hpv] at hpc
            simp only [drawOp, hgd, hcls, hpc, hlook] at q1
            split at q1
            · rename_i h; simp at q1
            · cases q1
      · split
        · rename_i h _ _; exact absurd h hcls
        · rfl

theorem imp_draw {m : Nat} {rd : Bool} {nt : Nat} {ds : List DOp} {late : List Nat} (hok : okDraw nt ds late = true) : Imp m rd nt (denDraw nt ds late) (.draw ds late) := by
  intro calF calA hc T t H n e r hT hr
  unfold okDraw at hok
  simp only [Bool.and_eq_true, List.all_eq_true] at hok
  obtain ⟨hok, hlate⟩ := hok
  have hT0 : t.length = nt := hT.len
  have hr : denD nt 0 0 ds calF H.next T [⟨H.next + ds.length, H.tr, H.lim, H.ovr⟩] [] (fun T Cs Es => denCk nt (actsN ds) ds.length 0 ds calF H.next T Cs Es (n T (addF H.next Es (revAdds ds.length late) (nthH Cs 0)))) = some r := hr
  have hR0 : DRel nt t (ds.take 0) 0 T [⟨H.next + ds.length, H.tr, H.lim, H.ovr⟩] [] ⟨[], [{ H with next := H.next + ds.length }], []⟩ := ⟨hT, rfl, rfl, rfl, rfl, rfl⟩
  obtain ⟨s, T', h1, h2, h3⟩ := stepAll hc hT0 ds 0 0 T _ _ _ _ r rfl (Nat.zero_le _) hok hR0 hr
  rw [Nat.zero_add] at h2
  obtain ⟨k1, k2⟩ := ckAll hc hT0 hok h1 ⟨rfl, rfl, rfl⟩ h2 ds 0 _ r rfl h3
  refine ⟨.nrm, putAll t ds s.Vs, addE H.next s.Es (s.Cs.getLastD default) late, T', ?_, h2.t, ?_⟩
  · simp only [codeA, drawA, h1, k1, if_true]
  · have e1 : nthH s.Cs.reverse 0 = s.Cs.getLastD default := by
      rw [nthH_eq]
      have hne := h2.lc
      rcases List.eq_nil_or_concat s.Cs with h | ⟨l, a, h⟩
      · rw [h] at hne; simp at hne
      · rw [h]; simp
    rw [e1, addF_eq h2.le _ _ (fun a ha => Nat.le_of_ble_eq_true (hlate a ha))] at k2
    exact k2

end Go.Proofs.YtedembbgeljdkaaGreatDoor.Ev
