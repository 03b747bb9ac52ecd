/-
  THE FAST EVALUATOR answers what the slow one does.
-/
import Derived.Test.YtedembbgeljdkaaGreatDoorEvFastOps
namespace Go.Proofs.YtedembbgeljdkaaGreatDoor.Ev
open Go
set_option linter.all false

/-! ### Slots -/

theorem Tq.get_set {n m : Nat} (hn : n < 512) (hm : m < 512) (v : AV) (T : Tq) : Tq.get m (Tq.set n v T) = if m = n then v else Tq.get m T := by
  have dv : ∀ u v : Nat, Nat.div u v = u / v := fun _ _ => rfl
  unfold Tq.get Tq.set
  simp only [dv]
  by_cases hmn : m = n
  · subst hmn
    simp only [Q.at_up, if_true]
  · rw [if_neg hmn]
    by_cases h2 : D8.of (m / 64) = D8.of (n / 64)
    · rw [Q.at_up, if_pos h2]
      by_cases h1 : D8.of (m / 8) = D8.of (n / 8)
      · rw [Q.at_up, if_pos h1]
        have h0 : D8.of m ≠ D8.of n := fun h0 => hmn (by
          have := D8.of_eq h0; have := D8.of_eq h1; have := D8.of_eq h2
          omega)
        rw [Q.at_up, if_neg h0]
      · rw [Q.at_up, if_neg h1]
    · rw [Q.at_up, if_neg h2]

theorem Tq.get_T0 (n : Nat) : Tq.get n T0 = .undef := by
  have h : ∀ {α : Type} (d : D8) (x : α), Q.at d (Q.all x) = x := by intro α d x; cases d <;> rfl
  unfold Tq.get T0
  rw [h, h, h]

structure TRel (nt : Nat) (T : Tq) (t : Tm) : Prop where
  le : nt ≤ 512
  len : t.length = nt
  at' : ∀ n, n < 512 → Tq.get n T = t.getD n .undef

section
variable {nt : Nat} {T : Tq} {t : Tm}

theorem TRel.gt (h : TRel nt T t) (n : Nat) : gtN n T = getT t n := by
  unfold gtN getT
  split
  · rename_i hn; exact h.at' n hn
  · rename_i hn
    have h1 := h.le
    have h2 := h.len
    rw [List.getD_eq_getElem?_getD, List.getElem?_eq_none (by omega)]; rfl
theorem TRel.ev (h : TRel nt T t) (s : Src) : srcG s T = s.ev t := by
  cases s with
  | t n => exact h.gt n
  | c v => rfl
theorem TRel.evq (h : TRel nt T t) : evq T = Src.ev t := funext fun s => h.ev s

theorem TRel.put (h : TRel nt T t) (d : Option Nat) (v : AV) : TRel nt (ptN nt d v T) (putT t d v) := by
  cases d with
  | none => exact h
  | some d =>
    simp only [ptN, putT]
    split
    · rename_i hd
      refine ⟨h.le, by rw [List.length_set]; exact h.len, fun n hn => ?_⟩
      have h1 := h.le
      have h2 := h.len
      rw [Tq.get_set (by omega) hn, List.getD_eq_getElem?_getD]
      by_cases e : n = d
      · subst e; rw [if_pos rfl, List.getElem?_set_self (by omega)]; rfl
      · rw [if_neg e, List.getElem?_set_ne (Ne.symm e), h.at' n hn, List.getD_eq_getElem?_getD]
    · rename_i hd
      have h2 := h.len
      rw [List.set_eq_of_length_le (by omega)]
      exact h

theorem ofLF_at : ∀ (l : List AV) (i : Nat) (T : Tq) (n : Nat), n < 512 → i + l.length ≤ 512 → Tq.get n (ofLF l i T) = if i ≤ n ∧ n < i + l.length then l.getD (n - i) .undef else Tq.get n T
  | [], i, T, n, _, _ => by simp [ofLF]; intro h1 h2; omega
  | v :: l, i, T, n, hn, hl => by
    simp only [List.length_cons] at hl ⊢
    simp only [ofLF]
    rw [ofLF_at l (i + 1) _ n hn (by omega), Tq.get_set (by omega) hn]
    by_cases h1 : n = i
    · subst h1
      rw [if_neg (by omega), if_pos rfl, if_pos (by omega)]
      simp
    · by_cases h2 : i + 1 ≤ n ∧ n < i + 1 + l.length
      · rw [if_pos h2, if_pos (by omega), show n - i = (n - (i + 1)) + 1 by omega, List.getD_cons_succ]
      · rw [if_neg h2, if_neg h1, if_neg (by omega)]

theorem TRel.ofL (hle : nt ≤ 512) (hlen : t.length = nt) : TRel nt (ofL t) t := by
  refine ⟨hle, hlen, fun n hn => ?_⟩
  unfold Ev.ofL
  rw [ofLF_at _ _ _ _ hn (by omega)]
  by_cases h : n < t.length
  · rw [if_pos (by omega)]; simp
  · rw [if_neg (by omega), Tq.get_T0, List.getD_eq_getElem?_getD, List.getElem?_eq_none (by omega)]; rfl

theorem nthU_eq : ∀ (l : List AV) (n : Nat), nthU l n = l.getD n .undef
  | [], n => rfl
  | a :: l, 0 => rfl
  | a :: l, n + 1 => by show nthU l n = _; rw [nthU_eq l n, List.getD_cons_succ]

theorem argsT_at {args : List AV} (hl : args.length ≤ 512) {n : Nat} (hn : n < 512) : Tq.get n (argsT args) = args.getD n .undef := by
  unfold argsT
  cases hb : Nat.ble (lenF args) 8 with
  | false =>
    show Tq.get n (ofLF args 0 T0) = _
    rw [ofLF_at _ _ _ _ hn (by omega)]
    by_cases h : n < args.length
    · rw [if_pos (by omega)]; rfl
    · rw [if_neg (by omega), Tq.get_T0, List.getD_eq_getElem?_getD, List.getElem?_eq_none (by omega)]; rfl
  | true =>
    rw [lenF_eq] at hb
    have hb := Nat.le_of_ble_eq_true hb
    by_cases h : n < 8
    · have : n = 0 ∨ n = 1 ∨ n = 2 ∨ n = 3 ∨ n = 4 ∨ n = 5 ∨ n = 6 ∨ n = 7 := by omega
      rcases this with rfl | rfl | rfl | rfl | rfl | rfl | rfl | rfl <;> exact nthU_eq _ _
    · rw [List.getD_eq_getElem?_getD, List.getElem?_eq_none (by omega)]
      unfold Tq.get
      cases h2 : D8.of (Nat.div n 64) <;> cases h1 : D8.of (Nat.div n 8) <;> cases h0 : D8.of n <;> first | rfl | skip
      all_goals
        exfalso
        have e2 := D8.of_eq (x := Nat.div n 64) (y := 0) h2
        have e1 := D8.of_eq (x := Nat.div n 8) (y := 0) h1
        have dv : ∀ u v : Nat, Nat.div u v = u / v := fun _ _ => rfl
        rw [dv] at e1 e2
        omega

theorem TRel.args {args : List AV} (hle : nt ≤ 512) (ha : args.length ≤ nt) : TRel nt (argsT args) (args ++ List.replicate (nt - args.length) .undef) := by
  refine ⟨hle, by simp; omega, fun n hn => ?_⟩
  rw [argsT_at (by omega) hn]
  have e : (args ++ List.replicate (nt - args.length) AV.undef).getD n .undef = (if n < args.length then args[n]? else (List.replicate (nt - args.length) AV.undef)[n - args.length]?).getD .undef := by
    rw [List.getD_eq_getElem?_getD, List.getElem?_append]
  rw [e]
  by_cases h : n < args.length
  · rw [if_pos h, List.getD_eq_getElem?_getD]
  · rw [if_neg h, List.getElem?_replicate, List.getD_eq_getElem?_getD, List.getElem?_eq_none (by omega)]
    split <;> rfl

theorem TRel.toL (h : TRel nt T t) : toL nt T = t := by
  unfold Ev.toL
  have h1 := h.le
  have h2 := h.len
  apply List.ext_getElem?
  intro n
  by_cases hn : n < nt
  · rw [List.getElem?_map, List.getElem?_range hn, List.getElem?_eq_getElem (by omega)]
    simp only [Option.map_some]
    rw [h.at' n (by omega), List.getD_eq_getElem?_getD, List.getElem?_eq_getElem (by omega)]; rfl
  · rw [List.getElem?_eq_none (by simp; omega), List.getElem?_eq_none (by omega)]

end

/-! ### Calls -/

def CalRel (calF : CalK) (calA : Cal) : Prop := ∀ t H k r, calF t H k = some r → ∃ v H', calA t H = some (v, H') ∧ k v H' = some r

/-! ### Operations -/

def stepA (cal : Cal) (id : Nat) (o : ROp) (t : Tm) (H : Heap) : Option (Tm × Heap) := opsA cal id [o] t H

theorem opsA_cons {cal : Cal} {id : Nat} {o : ROp} {os : List ROp} {t t1 : Tm} {H H1 : Heap} (h : stepA cal id o t H = some (t1, H1)) : opsA cal id (o :: os) t H = opsA cal (id + 1) os t1 H1 := by
  unfold stepA at h
  simp only [opsA] at h ⊢
  split at h
  · split at h
    · rename_i v H' hv; cases h; rfl
    · cases h
  · cases h; rfl
  · cases h

def ImpO (nt i : Nat) (c : OpC) (o : ROp) : Prop := ∀ calF calA, CalRel calF calA → ∀ (T : Tq) (t : Tm) (H : Heap) (n : K1) (x : Nat) (r : AV × Heap), TRel nt T t → c calF x T H n = some r →
  ∃ t' H' T', stepA calA (x + i) o t H = some (t', H') ∧ TRel nt T' t' ∧ n T' H' = some r

def ImpS (nt i : Nat) (c : OpC) (os : List ROp) : Prop := ∀ calF calA, CalRel calF calA → ∀ (T : Tq) (t : Tm) (H : Heap) (n : K1) (x : Nat) (r : AV × Heap), TRel nt T t → c calF x T H n = some r →
  ∃ t' H' T', opsA calA (x + i) os t H = some (t', H') ∧ TRel nt T' t' ∧ n T' H' = some r

def ImpV (nt i : Nat) (c : OpC) (d : Option Nat) (op : AOp) : Prop := ∀ calF calA, CalRel calF calA → ∀ (T : Tq) (t : Tm) (H : Heap) (n : K1) (x : Nat) (r : AV × Heap), TRel nt T t → c calF x T H n = some r →
  ∃ v H' T', opA calA (Src.ev t) H (x + i) op = some (v, H') ∧ TRel nt T' (putT t d v) ∧ n T' H' = some r

theorem impO_plain {nt i : Nat} {c : OpC} {d : Option Nat} {op : AOp} (h : ImpV nt i c d op) : ImpO nt i c ⟨d, op, none⟩ := by
  intro calF calA hc T t H n x r hT hr
  obtain ⟨v, H', T', h1, h2, h3⟩ := h calF calA hc T t H n x r hT hr
  refine ⟨_, H', T', ?_, h2, h3⟩
  simp only [stepA, opsA, wantedA, h1]

theorem impO_guard {nt i : Nat} {c : OpC} {d : Option Nat} {op : AOp} {g : Nat} {want : Bool} (h : ImpV nt i c d op) : ImpO nt i (og (gtN g) want (ptN nt d) c) ⟨d, op, some (g, want)⟩ := by
  intro calF calA hc T t H n x r hT hr
  unfold og at hr
  rw [hT.gt] at hr
  have hget : ∀ v, getT t g = v → v ≠ .undef → t[g]? = some v := by
    intro v hv hne
    unfold getT at hv
    rw [List.getD_eq_getElem?_getD] at hv
    cases hc : t[g]? with
    | some u => rw [hc] at hv; simp at hv; rw [hv]
    | none => rw [hc] at hv; simp at hv; exact absurd hv.symm hne
  have run : c calF x T H n = some r → wantedA t (some (g, want)) = some true → ∃ t' H' T', stepA calA (x + i) ⟨d, op, some (g, want)⟩ t H = some (t', H') ∧ TRel nt T' t' ∧ n T' H' = some r := by
    intro hr hw
    obtain ⟨v, H', T', h1, h2, h3⟩ := h calF calA hc T t H n x r hT hr
    refine ⟨_, H', T', ?_, h2, h3⟩
    simp only [stepA, opsA, hw, h1]
  have skip : n (ptN nt d (.tup []) T) H = some r → wantedA t (some (g, want)) = some false → ∃ t' H' T', stepA calA (x + i) ⟨d, op, some (g, want)⟩ t H = some (t', H') ∧ TRel nt T' t' ∧ n T' H' = some r := by
    intro hr hw
    refine ⟨_, H, _, ?_, hT.put d (.tup []), hr⟩
    simp only [stepA, opsA, hw]
  generalize hv : getT t g = v at hr
  cases v <;> first | (cases hr; done) | skip
  · rename_i b
    have hw : wantedA t (some (g, want)) = some (b == want) := by simp only [wantedA, hget _ hv (by simp)]
    cases b <;> cases want <;> first | exact run hr hw | exact skip hr hw
  · rename_i l
    cases l with
    | nil =>
      have hw : wantedA t (some (g, want)) = some false := by simp only [wantedA, hget _ hv (by simp)]
      exact skip hr hw
    | cons a l => cases hr

theorem impV_mv {nt i : Nat} {d : Option Nat} {x : Src} : ImpV nt i (om (srcG x) (ptN nt d)) d (.mv x) := by
  intro calF calA hc T t H n y r hT hr
  exact ⟨x.ev t, H, _, rfl, hT.put d _, by rw [← hT.ev x]; exact hr⟩

theorem impV_gen {nt i : Nat} {d : Option Nat} {op : AOp} (hop : ∀ f args, op ≠ .call f args) : ImpV nt i (oe op i (ptN nt d)) d op := by
  intro calF calA hc T t H n y r hT hr
  unfold oe at hr
  rw [hT.evq] at hr
  obtain ⟨⟨v, H'⟩, h1, h2⟩ := optK_some hr
  refine ⟨v, H', _, ?_, hT.put d v, h2⟩
  cases op <;> first | exact h1 | exact absurd rfl (hop _ _)

theorem impV_call {nt i : Nat} {d : Option Nat} {f : Src} {args : List Src} : ImpV nt i (oCall (srcG f) (fun T => args.map fun s => srcG s T) (ptN nt d)) d (.call f args) := by
  intro calF calA hc T t H n y r hT hr
  unfold oCall at hr
  obtain ⟨tk, h1, h2⟩ := optK_some hr
  simp only at h1
  obtain ⟨v, H', h3, h4⟩ := hc _ _ _ _ h2
  have ha : (args.map fun s => srcG s T) = args.map (Src.ev t) := List.map_congr_left fun s _ => hT.ev s
  rw [hT.ev, ha] at h1
  refine ⟨v, H', _, ?_, hT.put d v, h4⟩
  simp only [opA, Option.bind_eq_bind, h1, Option.bind_some, h3]

theorem impV_callF {nt i : Nat} {d : Option Nat} {f : Nat} {args : List Src} : ImpV nt i (ocz f (fun T => args.map fun s => srcG s T) (ptN nt d)) d (.call (.c (.fn (.func f) [] [])) args) := by
  intro calF calA hc T t H n y r hT hr
  unfold ocz at hr
  obtain ⟨v, H', h3, h4⟩ := hc _ _ _ _ hr
  simp only at h3
  have ha : (args.map fun s => srcG s T) = args.map (Src.ev t) := List.map_congr_left fun s _ => hT.ev s
  rw [ha] at h3
  refine ⟨v, H', _, ?_, hT.put d v, h4⟩
  simp only [opA, Option.bind_eq_bind, Src.ev, taskOf, List.nil_append, List.append_nil, Option.bind_some, h3]

theorem opA_pureK {cal : Cal} {ev : Src → AV} {H : Heap} {id : Nat} {op : AOp} {v : AV} (h : pureA ev op = some v) : opA cal ev H id op = some (v, H) := by
  cases op <;> first | (simp only [opA, h]; done) | (simp [pureA] at h; done)

theorem impV_P {nt i : Nat} {d : Option Nat} {f : PV} {op : AOp} (hf : PVok f op) : ImpV nt i (oP f (ptN nt d)) d op := by
  intro calF calA hc T t H n y r hT hr
  obtain ⟨v, h1, h2⟩ := hf T _ r hr
  rw [hT.evq] at h1
  exact ⟨v, H, _, opA_pureK h1, hT.put d v, h2⟩

theorem impV_load {nt i : Nat} {d : Option Nat} {x : Src} : ImpV nt i (ol (srcG x) (ptN nt d)) d (.load none x) := by
  intro calF calA hc T t H n y r hT hr
  obtain ⟨v, h1, h2⟩ := avLoad_some hr
  rw [hT.ev] at h1
  exact ⟨v, H, _, by simp only [opA, pureA, heapA, h1]; rfl, hT.put d v, h2⟩

theorem impV_loadN {nt i m : Nat} {d : Option Nat} {x : Src} : ImpV nt i (onz m (srcG x) (ptN nt d)) d (.load (some m) x) := by
  intro calF calA hc T t H n y r hT hr
  obtain ⟨v, h1, h2⟩ := avLoadN_some hr
  rw [hT.ev] at h1
  exact ⟨v, H, _, by simp only [opA, pureA, heapA, h1]; rfl, hT.put d v, h2⟩

theorem impV_store {nt i : Nat} {d : Option Nat} {x v : Src} : ImpV nt i (os1 (srcG x) (srcG v) (ptN nt d)) d (.store 1 x v) := by
  intro calF calA hc T t H n y r hT hr
  obtain ⟨H', h1, h2⟩ := avStore_some hr
  rw [hT.ev, hT.ev] at h1
  exact ⟨.undef, H', _, by simp only [opA, pureA, heapA, h1]; rfl, hT.put d _, h2⟩

theorem impV_storeN {nt i m : Nat} {d : Option Nat} {x v : Src} : ImpV nt i (ot m (srcG x) (srcG v) (ptN nt d)) d (.store m x v) := by
  intro calF calA hc T t H n y r hT hr
  obtain ⟨H', h1, h2⟩ := avStoreN_some hr
  rw [hT.ev, hT.ev] at h1
  exact ⟨.undef, H', _, by simp only [opA, pureA, heapA, h1]; rfl, hT.put d _, h2⟩

theorem impV_alloc {nt i ty : Nat} {z : List AV} {d : Option Nat} : ImpV nt i (oa ty z i (ptN nt d)) d (.alloc ty z) := by
  intro calF calA hc T t H n y r hT hr
  exact ⟨.ptr (y + i) 0, _, _, rfl, hT.put d _, hr⟩

theorem impV_box {nt i ty : Nat} {x : Src} {d : Option Nat} : ImpV nt i (ox ty (srcG x) i (ptN nt d)) d (.box ty x) := by
  intro calF calA hc T t H n y r hT hr
  obtain ⟨h1, h2⟩ := boolK_some hr
  rw [allOne_eq, cellsF_eq, hT.ev] at h1
  rw [cellsF_eq, hT.ev] at h2
  exact ⟨.ptr (y + i) 0, _, _, by simp only [opA, pureA, heapA]; exact if_pos h1, hT.put d _, h2⟩

theorem impV_buildSlice {nt i ty size len : Nat} {z : List AV} {ps : List ((Nat × Nat) × Src)} {d : Option Nat} : ImpV nt i (ob ty size z len (ps.map fun q => (q.1, srcG q.2)) i (ptN nt d)) d (.buildSlice ty size z len ps) := by
  intro calF calA hc T t H n y r hT hr
  obtain ⟨ds, h1, h2⟩ := fillK_some ps z _ r hr
  rw [hT.evq] at h1
  exact ⟨_, _, _, by simp only [opA, pureA, heapA, h1]; rfl, hT.put d _, h2⟩

theorem impV_den {nt i : Nat} {d : Option Nat} (op : AOp) : ImpV nt i (denOp1 i (ptN nt d) op) d op := by
  unfold denOp1
  split
  · exact impV_mv
  · split
    · exact impV_P vAdd_ok
    · exact impV_P vSub_ok
    · exact impV_P vMul_ok
    · exact impV_P vLss_ok
    · exact impV_P vGtr_ok
    · exact impV_P vLeq_ok
    · exact impV_P vGeq_ok
    · exact impV_P vEql_ok
    · exact impV_P vNeq_ok
    · exact impV_gen fun _ _ h => by cases h
  · exact impV_P vLen_ok
  · exact impV_P vIdx_ok
  · exact impV_P vFA_ok
  · exact impV_P vExt_ok
  · exact impV_load
  · exact impV_store
  · exact impV_alloc
  · exact impV_P vPick_ok
  · exact impV_loadN
  · exact impV_storeN
  · exact impV_box
  · exact impV_P vBuild_ok
  · exact impV_buildSlice
  · rename_i f args
    unfold denCall
    split
    · exact impV_callF
    · exact impV_call
  · rename_i h
    exact impV_gen (by assumption)

theorem impO_den {nt i : Nat} (o : ROp) : ImpO nt i (denOp nt i o) o := by
  obtain ⟨d, op, g⟩ := o
  cases g with
  | none => exact impO_plain (impV_den op)
  | some p =>
    obtain ⟨g, w⟩ := p
    exact impO_guard (impV_den op)

theorem impS_den {nt : Nat} : ∀ (os : List ROp) (i : Nat), ImpS nt i (denOps nt i os) os
  | [], i => fun calF calA _ T t H n x r hT hr => ⟨t, H, T, rfl, hT, hr⟩
  | [o], i => fun calF calA hc T t H n x r hT hr => impO_den o calF calA hc T t H n x r hT hr
  | o :: o' :: os, i => by
    intro calF calA hc T t H n x r hT hr
    simp only [denOps, oq] at hr
    obtain ⟨t1, H1, T1, h1, h2, h3⟩ := impO_den o calF calA hc T t H _ x r hT hr
    obtain ⟨t2, H2, T2, k1, k2, k3⟩ := impS_den (o' :: os) (i + 1) calF calA hc T1 t1 H1 n x r h2 h3
    exact ⟨t2, H2, T2, by rw [opsA_cons h1]; exact k1, k2, k3⟩

/-! ### Code -/

def Imp (m : Nat) (rd : Bool) (nt : Nat) (c : Comp) (ac : ACode) : Prop := ∀ calF calA, CalRel calF calA → ∀ (T : Tq) (t : Tm) (H : Heap) (n : K1) (e : Nat → K1) (r : AV × Heap), TRel nt T t → c calF T H n e = some r →
  ∃ x t' H' T', codeA calA m rd ac t H = some (x, t', H') ∧ TRel nt T' t' ∧ kont n e x T' H' = some r

theorem calD_rel {calF : CalK} {calA : Cal} (h : CalRel calF calA) {t : Task} {H : Heap} {v : AV} {H' : Heap} (hv : calD calF t H = some (v, H')) : calA t H = some (v, H') := by
  obtain ⟨v', H1, h1, h2⟩ := h _ _ _ _ hv
  cases h2; exact h1


/-! ### More calls, no less -/

def Le (c c' : Cal) : Prop := ∀ t H r, c t H = some r → c' t H = some r

section
variable {c c' : Cal}

theorem opA_mono (h : Le c c') {ev : Src → AV} {H : Heap} {id : Nat} {op : AOp} {r : AV × Heap} (hr : opA c ev H id op = some r) : opA c' ev H id op = some r := by
  cases op <;> first | exact hr | skip
  simp only [opA, Option.bind_eq_bind, Option.bind_eq_some_iff] at hr ⊢
  obtain ⟨t, ht, hr⟩ := hr
  exact ⟨t, ht, h _ _ _ hr⟩

theorem opsA_mono (h : Le c c') : ∀ (os : List ROp) (id : Nat) (t : Tm) (H : Heap) (r : Tm × Heap), opsA c id os t H = some r → opsA c' id os t H = some r
  | [], id, t, H, r, hr => hr
  | o :: os, id, t, H, r, hr => by
    simp only [opsA] at hr ⊢
    split at hr
    · split at hr
      · rename_i v H' hv
        rw [opA_mono h hv]
        exact opsA_mono h os _ _ _ _ hr
      · cases hr
    · exact opsA_mono h os _ _ _ _ hr
    · cases hr

theorem drawOp_mono (h : Le c c') {base : Nat} {T0 : Tm} {i : Nat} {d : DOp} {s s' : DS} (hr : drawOp c base T0 i d s = some s') : drawOp c' base T0 i d s = some s' := by
  unfold drawOp at hr ⊢
  cases hw : wantedA (useT T0 s.Vs d.uses) d.guard with
  | none => simp only [hw] at hr; cases hr
  | some b =>
    cases b with
    | false => simp only [hw] at hr ⊢; exact hr
    | true =>
      simp only [hw] at hr ⊢
      split at hr
      · exact hr
      · exact hr
      · split at hr
        · split at hr
          · rename_i v H' hv
            cases hr
            simp only [opA_mono h hv]
          · cases hr
        · cases hr

theorem drawGo_mono (h : Le c c') {base : Nat} {T0 : Tm} : ∀ (ds : List DOp) (i : Nat) (s s' : DS), drawGo c base T0 i ds s = some s' → drawGo c' base T0 i ds s = some s'
  | [], i, s, s', hr => hr
  | d :: ds, i, s, s', hr => by
    simp only [drawGo] at hr ⊢
    split at hr
    · rename_i s1 h1
      rw [drawOp_mono h h1]
      exact drawGo_mono h ds _ _ _ hr
    · cases hr

theorem drawA_mono (h : Le c c') {ds : List DOp} {late : List Nat} {t : Tm} {H : Heap} {r : Tm × Heap} (hr : drawA c ds late t H = some r) : drawA c' ds late t H = some r := by
  unfold drawA at hr ⊢
  split at hr
  · cases hr
  · rename_i s hs
    rw [drawGo_mono h _ _ _ _ hs]
    exact hr

theorem iter_mono {f g : Tm → Heap → Option (Ex × Tm × Heap)} (h : ∀ t H r, f t H = some r → g t H = some r) : ∀ (k : Nat) (t : Tm) (H : Heap) (r : Ex × Tm × Heap), iter f k t H = some r → iter g k t H = some r
  | 0, t, H, r, hr => by cases hr
  | k + 1, t, H, r, hr => by
    simp only [iter] at hr ⊢
    split at hr
    · rename_i T' H' h1
      rw [h _ _ _ h1]
      exact iter_mono h k _ _ _ hr
    · rename_i hne
      have := h _ _ _ hr
      rw [this]
      obtain ⟨x, t', H'⟩ := r
      cases x <;> first | rfl | exact absurd hr (hne _ _)

theorem drawFA_mono (h : Le c c') {ds : List DOp} {late mid : List Nat} {last : DOp} {T : Tm} {H : Heap} {r : Tm × Heap} (hr : drawFA c ds late last mid T H = some r) : drawFA c' ds late last mid T H = some r := by
  unfold drawFA at hr ⊢
  cases hd : drawGo c H.next T 0 ds ⟨[], [{ H with next := H.next + (ds.length + 1) }], []⟩ with
  | none => rw [hd] at hr; cases hr
  | some s => rw [hd] at hr; rw [drawGo_mono h _ _ _ _ hd]; exact hr

theorem codeA_mono (h : Le c c') {m : Nat} {rd : Bool} : ∀ (ac : ACode) (t : Tm) (H : Heap) (r : Ex × Tm × Heap), codeA c m rd ac t H = some r → codeA c' m rd ac t H = some r := by
  intro ac
  induction ac with
  | skip => intro t H r hr; exact hr
  | exit i => intro t H r hr; exact hr
  | goto l => intro t H r hr; exact hr
  | ret => intro t H r hr; exact hr
  | region ops =>
    intro t H r hr
    simp only [codeA] at hr ⊢
    split at hr
    · rename_i T' H' h1
      rw [opsA_mono h _ _ _ _ _ h1]; exact hr
    · cases hr
  | draw ds late =>
    intro t H r hr
    simp only [codeA] at hr ⊢
    split at hr
    · rename_i T' H' h1
      rw [drawA_mono h h1]; exact hr
    · cases hr
  | seq a b iha ihb =>
    intro t H r hr
    simp only [codeA] at hr ⊢
    split at hr
    · rename_i T' H' h1
      rw [iha _ _ _ h1]
      exact ihb _ _ _ hr
    · rename_i hne
      have := iha _ _ _ hr
      rw [this]
      obtain ⟨x, t', H'⟩ := r
      cases x <;> first | rfl | exact absurd hr (hne _ _)
  | cond s a b iha ihb =>
    intro t H r hr
    simp only [codeA] at hr ⊢
    split at hr
    · exact iha _ _ _ hr
    · exact ihb _ _ _ hr
    · cases hr
  | block id a iha =>
    intro t H r hr
    simp only [codeA] at hr ⊢
    split at hr
    · rename_i i T' H' h1
      rw [iha _ _ _ h1]
      exact hr
    · rename_i hne
      have := iha _ _ _ hr
      rw [this]
      obtain ⟨x, t', H'⟩ := r
      cases x <;> first | rfl | exact absurd hr (hne _ _ _)
  | loop a iha =>
    intro t H r hr
    simp only [codeA] at hr ⊢
    exact iter_mono iha _ _ _ _ hr
  | drawF ds late last mid =>
    intro t H r hr
    simp only [codeA] at hr ⊢
    split at hr
    · rename_i T' H' h1
      rw [drawFA_mono h h1]; exact hr
    · cases hr
  | rangeM pre x it nx ex b1 b2 en os rest W ih =>
    intro t H r hr
    simp only [codeA] at hr ⊢
    cases ho : opsA c H.next pre t { H with next := H.next + (pre.length + 1) } with
    | none => rw [ho] at hr; cases hr
    | some p =>
      obtain ⟨T1, H1⟩ := p
      rw [ho] at hr; rw [opsA_mono h _ _ _ _ _ ho]
      simp only at hr ⊢
      split at hr
      · rename_i b hb
        split at hr
        · rename_i es hes
          split at hr
          · rename_i hchk
            rw [if_pos, ← hr]
            simp only [Bool.and_eq_true] at hchk ⊢
            obtain ⟨c1, c2, c3, c4, c5⟩ := hchk
            refine ⟨c1, c2, c3, c4, ?_⟩
            rw [List.all_eq_true] at c5 ⊢
            intro p hp
            have := c5 p hp
            split at this
            · rename_i T3 H3 h3
              rw [opsA_mono h _ _ _ _ _ h3]
              simp only
              cases hc : codeA c m rd rest T3 H3 with
              | none => rw [hc] at this; cases this
              | some q => rw [hc] at this; rw [ih _ _ _ hc]; exact this
            · cases this
          · cases hr
        · cases hr
      · cases hr
  | scope a iha =>
    intro t H r hr
    simp only [codeA] at hr ⊢
    split at hr
    · cases hr
    · rename_i hne
      rw [iha _ _ _ hr]
      obtain ⟨x, t', H'⟩ := r
      cases x with
      | goto l => exact absurd hr (hne _ _ _)
      | _ => rfl
  | rangeFunc f ps asg body iha ihb =>
    intro t H r hr
    simp only [codeA] at hr ⊢
    split at hr
    · cases hr
    · rename_i hrd
      rw [if_neg hrd]
      split at hr
      · rename_i fi args ht
        split at hr
        · rename_i v H2 h2
          rw [h _ _ _ h2]
          exact hr
        · cases hr
      · cases hr

theorem runFn_mono (h : Le c c') {m : Nat} {fn : AFn} {args : List AV} {H : Heap} {r : AV × Heap} (hr : runFn c m fn args H = some r) : runFn c' m fn args H = some r := by
  unfold runFn at hr ⊢
  split at hr
  · rename_i ha
    rw [if_pos ha]
    split at hr
    · rename_i T H' h1
      rw [codeA_mono h _ _ _ _ h1]; exact hr
    · rename_i T H' h1
      rw [codeA_mono h _ _ _ _ h1]; exact hr
    · cases hr
  · cases hr

theorem opsX_mono {pc : PCal} (h : Le c c') : ∀ (os : List ROp) (id : Nat) (T : Tm) (H : Heap) (r : Option AV × Tm × Heap), opsX c pc id os T H = some r → opsX c' pc id os T H = some r
  | [], id, T, H, r, hr => hr
  | o :: os, id, T, H, r, hr => by
    simp only [opsX] at hr ⊢
    cases hw : wantedA T o.guard with
    | none => rw [hw] at hr; cases hr
    | some wt =>
      rw [hw] at hr
      cases wt with
      | false => exact opsX_mono h os _ _ _ _ hr
      | true =>
        simp only at hr ⊢
        cases hp : opP pc (Src.ev T) H o.op with
        | some r => rw [hp] at hr; exact hr
        | none =>
          rw [hp] at hr
          simp only at hr ⊢
          cases ho : opA c (Src.ev T) H id o.op with
          | none => rw [ho] at hr; cases hr
          | some r' => rw [ho] at hr; rw [opA_mono h ho]; exact opsX_mono h os _ _ _ _ hr

theorem iterX_mono {f g : Tm → Heap → Option (Xx × Tm × Heap)} (h : ∀ T H r, f T H = some r → g T H = some r) : ∀ (k : Nat) (T : Tm) (H : Heap) (r : Xx × Tm × Heap), iterX f k T H = some r → iterX g k T H = some r
  | 0, T, H, r, hr => by cases hr
  | k + 1, T, H, r, hr => by
    simp only [iterX] at hr ⊢
    split at hr
    · rename_i T1 H1 h1
      rw [h _ _ _ h1]
      exact iterX_mono h k _ _ _ hr
    · rename_i hne
      rw [h _ _ _ hr]
      obtain ⟨x, T', H'⟩ := r
      cases x with
      | pan v => rfl
      | ex e => cases e <;> first | rfl | exact absurd hr (hne _ _)

theorem codeX_mono {pc : PCal} (h : Le c c') {m : Nat} {rd : Bool} : ∀ (ac : ACode) (T : Tm) (H : Heap) (r : Xx × Tm × Heap), codeX c pc m rd ac T H = some r → codeX c' pc m rd ac T H = some r := by
  intro ac
  have other : ∀ (ac : ACode) (T : Tm) (H : Heap) (r : Xx × Tm × Heap), (match codeA c m rd ac T H with | some (x, T', H') => some (Xx.ex x, T', H') | none => none) = some r → (match codeA c' m rd ac T H with | some (x, T', H') => some (Xx.ex x, T', H') | none => none) = some r := by
    intro ac T H r hr
    split at hr
    · rename_i x T1 H1 h1
      rw [codeA_mono h _ _ _ _ h1]; exact hr
    · cases hr
  induction ac with
  | skip => intro T H r hr; exact other .skip _ _ _ hr
  | exit i => intro T H r hr; exact other (.exit i) _ _ _ hr
  | goto l => intro T H r hr; exact other (.goto l) _ _ _ hr
  | ret => intro T H r hr; exact other .ret _ _ _ hr
  | rangeFunc f ps a b _ _ => intro T H r hr; exact other (.rangeFunc f ps a b) _ _ _ hr
  | rangeM pre x it nx ex b1 b2 en os rest W _ => intro T H r hr; exact other (.rangeM pre x it nx ex b1 b2 en os rest W) _ _ _ hr
  | region ops =>
    intro T H r hr
    simp only [codeX] at hr ⊢
    cases ho : opsX c pc H.next ops T { H with next := H.next + ops.length } with
    | none => rw [ho] at hr; cases hr
    | some r' => rw [ho] at hr; rw [opsX_mono h _ _ _ _ _ ho]; exact hr
  | draw ds late =>
    intro T H r hr
    simp only [codeX] at hr ⊢
    cases hp : drawP pc ds [] T H with
    | some p => rw [hp] at hr; exact hr
    | none =>
      rw [hp] at hr
      simp only at hr ⊢
      cases hd : drawA c ds late T H with
      | none => rw [hd] at hr; cases hr
      | some p => obtain ⟨T1, H1⟩ := p; rw [hd] at hr; rw [drawA_mono h hd]; exact hr
  | drawF ds late last mid =>
    intro T H r hr
    simp only [codeX] at hr ⊢
    cases hp : drawP pc ds mid T H with
    | some p => rw [hp] at hr; exact hr
    | none =>
      rw [hp] at hr
      simp only at hr ⊢
      cases hd : drawFA c ds late last mid T H with
      | none => rw [hd] at hr; cases hr
      | some p => obtain ⟨T1, H1⟩ := p; rw [hd] at hr; rw [drawFA_mono h hd]; exact hr
  | seq a b iha ihb =>
    intro T H r hr
    simp only [codeX] at hr ⊢
    split at hr
    · rename_i T1 H1 h1
      rw [iha _ _ _ h1]
      exact ihb _ _ _ hr
    · rename_i hne
      rw [iha _ _ _ hr]
      obtain ⟨x, T', H'⟩ := r
      cases x with
      | pan v => rfl
      | ex e => cases e <;> first | rfl | exact absurd hr (hne _ _)
  | cond s a b iha ihb =>
    intro T H r hr
    simp only [codeX] at hr ⊢
    split at hr
    · exact iha _ _ _ hr
    · exact ihb _ _ _ hr
    · cases hr
  | block id a iha =>
    intro T H r hr
    simp only [codeX] at hr ⊢
    split at hr
    · rename_i i T1 H1 h1
      rw [iha _ _ _ h1]
      exact hr
    · rename_i hne
      rw [iha _ _ _ hr]
      obtain ⟨x, T', H'⟩ := r
      cases x with
      | pan v => rfl
      | ex e => cases e <;> first | rfl | exact absurd hr (hne _ _ _)
  | loop a iha =>
    intro T H r hr
    simp only [codeX] at hr ⊢
    exact iterX_mono iha _ _ _ _ hr
  | scope a iha =>
    intro T H r hr
    simp only [codeX] at hr ⊢
    split at hr
    · cases hr
    · rename_i hne
      rw [iha _ _ _ hr]
      obtain ⟨x, T', H'⟩ := r
      cases x with
      | pan v => rfl
      | ex e => cases e <;> first | rfl | exact absurd hr (hne _ _ _)

theorem bodyB_mono {pc : PCal} (h : Le c c') {m : Nat} : ∀ (ab : ABody) (T : Tm) (H : Heap) (r : Option AV × Option AV × Tm × Heap), bodyB c pc m ab T H = some r → bodyB c' pc m ab T H = some r := by
  intro ab
  induction ab with
  | code ac =>
    intro T H r hr
    simp only [bodyB] at hr ⊢
    cases hx : codeX c pc m false ac T H with
    | none => rw [hx] at hr; cases hr
    | some p => rw [hx] at hr; rw [codeX_mono h _ _ _ _ hx]; exact hr
  | seq ac b ih =>
    intro T H r hr
    simp only [bodyB] at hr ⊢
    cases hx : codeX c pc m false ac T H with
    | none => rw [hx] at hr; cases hr
    | some p =>
      rw [hx] at hr; rw [codeX_mono h _ _ _ _ hx]
      obtain ⟨x, T1, H1⟩ := p
      cases x with
      | pan v => exact hr
      | ex e => cases e <;> first | exact hr | exact ih _ _ _ hr
  | dfr ops f b ih =>
    intro T H r hr
    simp only [bodyB] at hr ⊢
    cases ho : opsA c H.next ops T { H with next := H.next + (ops.length + 1) } with
    | none => rw [ho] at hr; cases hr
    | some p =>
      obtain ⟨T1, H1⟩ := p
      rw [ho] at hr; rw [opsA_mono h _ _ _ _ _ ho]
      simp only at hr ⊢
      split at hr
      · rename_i g fs cs hf
        cases hb : bodyB c pc m b T1 H1 with
        | none => rw [hb] at hr; cases hr
        | some p => rw [hb] at hr; rw [ih _ _ _ hb]; exact hr
      · cases hr

theorem runRcv_mono {tab : Nat → Option AFn} (h : Le c c') {m : Nat} {p : Option AV} {fv : AV} {H : Heap} {r : Heap} (hr : runRcv tab c m p fv H = some r) : runRcv tab c' m p fv H = some r := by
  unfold runRcv at hr ⊢
  split at hr
  · split at hr
    · split at hr
      · split at hr
        · rename_i ha
          rw [if_pos ha]
          cases hx : codeA c m false _ _ H with
          | none => rw [hx] at hr; cases hr
          | some q => rw [hx] at hr; rw [codeA_mono h _ _ _ _ hx]; exact hr
        · cases hr
      · cases hr
    · cases hr
  · cases hr

theorem runFnB_mono {tab : Nat → Option AFn} {pc : PCal} (h : Le c c') {m : Nat} {fn : AFn} {b : ABody} {args : List AV} {H : Heap} {r : AV × Heap} (hr : runFnB tab c pc m fn b args H = some r) : runFnB tab c' pc m fn b args H = some r := by
  unfold runFnB at hr ⊢
  split at hr
  · rename_i ha
    rw [if_pos ha]
    cases hb : bodyB c pc m b (args ++ List.replicate (fn.ntmps - args.length) .undef) H with
    | none => rw [hb] at hr; cases hr
    | some q =>
      rw [hb] at hr; rw [bodyB_mono h _ _ _ _ hb]
      obtain ⟨p, d, T, H'⟩ := q
      cases d with
      | none => cases p <;> exact hr
      | some fv =>
        simp only at hr ⊢
        cases hv : runRcv tab c m p fv H' with
        | none => rw [hv] at hr; cases hr
        | some H2 => rw [hv] at hr; rw [runRcv_mono h hv]; exact hr
  · cases hr

theorem runA1_mono {tab : Nat → Option AFn} {pc : PCal} (h : Le c c') {m : Nat} {t : Task} {H : Heap} {r : AV × Heap} (hr : runA1 tab pc c m t H = some r) : runA1 tab pc c' m t H = some r := by
  cases t with
  | fn f args =>
    simp only [runA1] at hr ⊢
    split at hr
    · cases hr
    · rename_i fn hfn
      split at hr
      · exact runFnB_mono h hr
      · exact hr
      · exact runFn_mono h hr
  | ent f args =>
    simp only [runA1] at hr ⊢
    split at hr
    · cases hr
    · rename_i fn hfn
      split at hr
      · cases hr
      · exact runFn_mono h hr
  | round b args =>
    simp only [runA1] at hr ⊢
    split at hr
    · rename_i T ps asg body hb
      split at hr
      · rename_i ha
        rw [if_pos ha]
        split at hr
        · rename_i T1 H1 h1
          rw [codeA_mono h _ _ _ _ h1]
          split at hr
          · rename_i T1' ps1 asg1 body1 hb1
            simp only [hb1]
            split at hr
            · rename_i x T2 H2 h2
              rw [codeA_mono h _ _ _ _ h2]
              exact hr
            · cases hr
          · cases hr
        · cases hr
      · cases hr
    · cases hr
end

end Go.Proofs.YtedembbgeljdkaaGreatDoor.Ev
