/- The evaluator, a part. -/
import Derived.Test.YtcmbokfnglkfnaaGreatDoorEvSlots
import Derived.Test.YtcmbokfnglkfnaaGreatDoorEvCode
namespace Go.Proofs.YtcmbokfnglkfnaaGreatDoor.Ev
open Go
set_option linter.all false
/-! ### Slots -/
theorem Tq.get_set {n m : Nat} (hn : n < 512) (hm : m < 512) (v : AV) (T : Tq) : Tq.get m (Tq.set n v T) = if m = n then v else Tq.get m T := by
 have dv : ∀ u v : Nat, Nat.div u v = u / v := fun _ _ => rfl
 unfold Tq.get Tq.set
 simp only [dv]
 by_cases hmn : m = n
 ·subst hmn
  simp only [Q.at_up, if_true]
 ·rw [if_neg hmn]
  by_cases h2 : D8.of (m / 64) = D8.of (n / 64)
  ·rw [Q.at_up, if_pos h2]
   by_cases h1 : D8.of (m / 8) = D8.of (n / 8)
   ·rw [Q.at_up, if_pos h1]
    have h0 : D8.of m ≠ D8.of n := fun h0 => hmn (by
     have := D8.of_eq h0; have := D8.of_eq h1; have := D8.of_eq h2
     omega)
    rw [Q.at_up, if_neg h0]
   ·rw [Q.at_up, if_neg h1]
  ·rw [Q.at_up, if_neg h2]
theorem Tq.get_T0 (n : Nat) : Tq.get n T0 = .undef := by
 have h : ∀ {α : Type} (d : D8) (x : α), Q.at d (Q.all x) = x := by intro α d x; cases d <;> rfl
 unfold Tq.get T0
 rw [h, h, h]
structure TRel (nt : Nat) (T : Tq) (t : Tm) : Prop where
 le : nt ≤ 512
 len : t.length = nt
 at' : ∀ n, n < 512 → Tq.get n T = t.getD n .undef
section
variable {nt : Nat} {T : Tq} {t : Tm}
theorem TRel.gt (h : TRel nt T t) (n : Nat) : gtN n T = getT t n := by
 unfold gtN getT
 split
 ·rename_i hn; exact h.at' n hn
 ·rename_i hn
  have h1 := h.le
  have h2 := h.len
  rw [List.getD_eq_getElem?_getD, List.getElem?_eq_none (by omega)]; rfl
theorem TRel.ev (h : TRel nt T t) (s : Src) : srcG s T = s.ev t := by
 cases s with
 | t n => exact h.gt n
 | c v => rfl
theorem TRel.evq (h : TRel nt T t) : evq T = Src.ev t := funext fun s => h.ev s
theorem TRel.put (h : TRel nt T t) (d : Option Nat) (v : AV) : TRel nt (ptN nt d v T) (putT t d v) := by
 cases d with
 | none => exact h
 | some d =>
  simp only [ptN, putT]
  split
  ·rename_i hd
   refine ⟨h.le, by rw [List.length_set]; exact h.len, fun n hn => ?_⟩
   have h1 := h.le
   have h2 := h.len
   rw [Tq.get_set (by omega) hn, List.getD_eq_getElem?_getD]
   by_cases e : n = d
   ·subst e; rw [if_pos rfl, List.getElem?_set_self (by omega)]; rfl
   ·rw [if_neg e, List.getElem?_set_ne (Ne.symm e), h.at' n hn, List.getD_eq_getElem?_getD]
  ·rename_i hd
   have h2 := h.len
   rw [List.set_eq_of_length_le (by omega)]
   exact h
theorem aj6 : ∀ (l : List AV) (i : Nat) (T : Tq) (n : Nat), n < 512 → i + l.length ≤ 512 → Tq.get n (ofLF l i T) = if i ≤ n ∧ n < i + l.length then l.getD (n - i) .undef else Tq.get n T
 | [], i, T, n, _, _ => by simp [ofLF]; intro h1 h2; omega
 | v :: l, i, T, n, hn, hl => by
  simp only [List.length_cons] at hl ⊢
  simp only [ofLF]
  rw [aj6 l (i + 1) _ n hn (by omega), Tq.get_set (by omega) hn]
  by_cases h1 : n = i
  ·subst h1
   rw [if_neg (by omega), if_pos rfl, if_pos (by omega)]
   simp
  ·by_cases h2 : i + 1 ≤ n ∧ n < i + 1 + l.length
   ·rw [if_pos h2, if_pos (by omega), show n - i = (n - (i + 1)) + 1 by omega, List.getD_cons_succ]
   ·rw [if_neg h2, if_neg h1, if_neg (by omega)]
theorem TRel.ofL (hle : nt ≤ 512) (hlen : t.length = nt) : TRel nt (ofL t) t := by
 refine ⟨hle, hlen, fun n hn => ?_⟩
 unfold Ev.ofL
 rw [aj6 _ _ _ _ hn (by omega)]
 by_cases h : n < t.length
 ·rw [if_pos (by omega)]; simp
 ·rw [if_neg (by omega), Tq.get_T0, List.getD_eq_getElem?_getD, List.getElem?_eq_none (by omega)]; rfl
theorem an1 : ∀ (l : List AV) (n : Nat), nthU l n = l.getD n .undef
 | [], n => rfl
 | a :: l, 0 => rfl
 | a :: l, n + 1 => by show nthU l n = _; rw [an1 l n, List.getD_cons_succ]
theorem argsT_at {args : List AV} (hl : args.length ≤ 512) {n : Nat} (hn : n < 512) : Tq.get n (argsT args) = args.getD n .undef := by
 unfold argsT
 cases hb : Nat.ble (lenF args) 8 with
 | false =>
  show Tq.get n (ofLF args 0 T0) = _
  rw [aj6 _ _ _ _ hn (by omega)]
  by_cases h : n < args.length
  ·rw [if_pos (by omega)]; rfl
  ·rw [if_neg (by omega), Tq.get_T0, List.getD_eq_getElem?_getD, List.getElem?_eq_none (by omega)]; rfl
 | true =>
  rw [afj] at hb
  have hb := Nat.le_of_ble_eq_true hb
  by_cases h : n < 8
  ·have : n = 0 ∨ n = 1 ∨ n = 2 ∨ n = 3 ∨ n = 4 ∨ n = 5 ∨ n = 6 ∨ n = 7 := by omega
   rcases this with rfl | rfl | rfl | rfl | rfl | rfl | rfl | rfl <;> exact an1 _ _
  ·rw [List.getD_eq_getElem?_getD, List.getElem?_eq_none (by omega)]
   unfold Tq.get
   cases h2 : D8.of (Nat.div n 64) <;> cases h1 : D8.of (Nat.div n 8) <;> cases h0 : D8.of n <;> first | rfl | skip
   all_goals
    exfalso
    have e2 := D8.of_eq (x := Nat.div n 64) (y := 0) h2
    have e1 := D8.of_eq (x := Nat.div n 8) (y := 0) h1
    have dv : ∀ u v : Nat, Nat.div u v = u / v := fun _ _ => rfl
    rw [dv] at e1 e2
    omega
theorem TRel.args {args : List AV} (hle : nt ≤ 512) (ha : args.length ≤ nt) : TRel nt (argsT args) (args ++ List.replicate (nt - args.length) .undef) := by
 refine ⟨hle, by simp; omega, fun n hn => ?_⟩
 rw [argsT_at (by omega) hn]
 have e : (args ++ List.replicate (nt - args.length) AV.undef).getD n .undef = (if n < args.length then args[n]? else (List.replicate (nt - args.length) AV.undef)[n - args.length]?).getD .undef := by
  rw [List.getD_eq_getElem?_getD, List.getElem?_append]
 rw [e]
 by_cases h : n < args.length
 ·rw [if_pos h, List.getD_eq_getElem?_getD]
 ·rw [if_neg h, List.getElem?_replicate, List.getD_eq_getElem?_getD, List.getElem?_eq_none (by omega)]
  split <;> rfl
theorem TRel.toL (h : TRel nt T t) : toL nt T = t := by
 unfold Ev.toL
 have h1 := h.le
 have h2 := h.len
 apply List.ext_getElem?
 intro n
 by_cases hn : n < nt
 ·rw [List.getElem?_map, List.getElem?_range hn, List.getElem?_eq_getElem (by omega)]
  simp only [Option.map_some]
  rw [h.at' n (by omega), List.getD_eq_getElem?_getD, List.getElem?_eq_getElem (by omega)]; rfl
 ·rw [List.getElem?_eq_none (by simp; omega), List.getElem?_eq_none (by omega)]
end
/-! ### Calls -/
def ab7 (calF : CalK) (calA : Cal) : Prop := ∀ t H k r, calF t H k = some r → ∃ v H', calA t H = some (v, H') ∧ k v H' = some r
/-! ### Operations -/
def stepA (cal : Cal) (id : Nat) (o : ROp) (t : Tm) (H : Heap) : Option (Tm × Heap) := opsA cal id [o] t H
theorem aox {cal : Cal} {id : Nat} {o : ROp} {os : List ROp} {t t1 : Tm} {H H1 : Heap} (h : stepA cal id o t H = some (t1, H1)) : opsA cal id (o :: os) t H = opsA cal (id + 1) os t1 H1 := by
 unfold stepA at h
 simp only [opsA] at h ⊢
 split at h
 ·split at h
  ·rename_i v H' hv; cases h; rfl
  ·cases h
 ·cases h; rfl
 ·cases h
def ImpO (nt i : Nat) (c : OpC) (o : ROp) : Prop := ∀ calF calA, ab7 calF calA → ∀ (T : Tq) (t : Tm) (H : Heap) (n : K1) (x : Nat) (r : AV × Heap), TRel nt T t → c calF x T H n = some r →
 ∃ t' H' T', stepA calA (x + i) o t H = some (t', H') ∧ TRel nt T' t' ∧ n T' H' = some r
def ImpS (nt i : Nat) (c : OpC) (os : List ROp) : Prop := ∀ calF calA, ab7 calF calA → ∀ (T : Tq) (t : Tm) (H : Heap) (n : K1) (x : Nat) (r : AV × Heap), TRel nt T t → c calF x T H n = some r →
 ∃ t' H' T', opsA calA (x + i) os t H = some (t', H') ∧ TRel nt T' t' ∧ n T' H' = some r
def ImpV (nt i : Nat) (c : OpC) (d : Option Nat) (op : AOp) : Prop := ∀ calF calA, ab7 calF calA → ∀ (T : Tq) (t : Tm) (H : Heap) (n : K1) (x : Nat) (r : AV × Heap), TRel nt T t → c calF x T H n = some r →
 ∃ v H' T', opA calA (Src.ev t) H (x + i) op = some (v, H') ∧ TRel nt T' (putT t d v) ∧ n T' H' = some r
theorem am2 {nt i : Nat} {c : OpC} {d : Option Nat} {op : AOp} (h : ImpV nt i c d op) : ImpO nt i c ⟨d, op, none⟩ := by
 intro calF calA hc T t H n x r hT hr
 obtain ⟨v, H', T', h1, h2, h3⟩ := h calF calA hc T t H n x r hT hr
 refine ⟨_, H', T', ?_, h2, h3⟩
 simp only [stepA, opsA, aae, h1]
theorem am4 {nt i : Nat} {c : OpC} {d : Option Nat} {op : AOp} {g : Nat} {want : Bool} (h : ImpV nt i c d op) : ImpO nt i (og (gtN g) want (ptN nt d) c) ⟨d, op, some (g, want)⟩ := by
 intro calF calA hc T t H n x r hT hr
 unfold og at hr
 rw [hT.gt] at hr
 have hget : ∀ v, getT t g = v → v ≠ .undef → t[g]? = some v := by
  intro v hv hne
  unfold getT at hv
  rw [List.getD_eq_getElem?_getD] at hv
  cases hc : t[g]? with
  | some u => rw [hc] at hv; simp at hv; rw [hv]
  | none => rw [hc] at hv; simp at hv; exact absurd hv.symm hne
 have run : c calF x T H n = some r → aae t (some (g, want)) = some true → ∃ t' H' T', stepA calA (x + i) ⟨d, op, some (g, want)⟩ t H = some (t', H') ∧ TRel nt T' t' ∧ n T' H' = some r := by
  intro hr hw
  obtain ⟨v, H', T', h1, h2, h3⟩ := h calF calA hc T t H n x r hT hr
  refine ⟨_, H', T', ?_, h2, h3⟩
  simp only [stepA, opsA, hw, h1]
 have skip : n (ptN nt d (.tup []) T) H = some r → aae t (some (g, want)) = some false → ∃ t' H' T', stepA calA (x + i) ⟨d, op, some (g, want)⟩ t H = some (t', H') ∧ TRel nt T' t' ∧ n T' H' = some r := by
  intro hr hw
  refine ⟨_, H, _, ?_, hT.put d (.tup []), hr⟩
  simp only [stepA, opsA, hw]
 generalize hv : getT t g = v at hr
 cases v <;> first | (cases hr; done) | skip
 ·rename_i b
  have hw : aae t (some (g, want)) = some (b == want) := by simp only [aae, hget _ hv (by simp)]
  cases b <;> cases want <;> first | exact run hr hw | exact skip hr hw
 ·rename_i l
  cases l with
  | nil =>
   have hw : aae t (some (g, want)) = some false := by simp only [aae, hget _ hv (by simp)]
   exact skip hr hw
  | cons a l => cases hr
theorem impV_mv {nt i : Nat} {d : Option Nat} {x : Src} : ImpV nt i (om (srcG x) (ptN nt d)) d (.mv x) := by
 intro calF calA hc T t H n y r hT hr
 exact ⟨x.ev t, H, _, rfl, hT.put d _, by rw [← hT.ev x]; exact hr⟩
theorem ali {nt i : Nat} {d : Option Nat} {op : AOp} (hop : ∀ f args, op ≠ .call f args) : ImpV nt i (oe op i (ptN nt d)) d op := by
 intro calF calA hc T t H n y r hT hr
 unfold oe at hr
 rw [hT.evq] at hr
 obtain ⟨⟨v, H'⟩, h1, h2⟩ := aay hr
 refine ⟨v, H', _, ?_, hT.put d v, h2⟩
 cases op <;> first | exact h1 | exact absurd rfl (hop _ _)
theorem anw {nt i : Nat} {d : Option Nat} {f : Src} {args : List Src} : ImpV nt i (oCall (srcG f) (fun T => args.map fun s => srcG s T) (ptN nt d)) d (.call f args) := by
 intro calF calA hc T t H n y r hT hr
 unfold oCall at hr
 obtain ⟨tk, h1, h2⟩ := aay hr
 simp only at h1
 obtain ⟨v, H', h3, h4⟩ := hc _ _ _ _ h2
 have ha : (args.map fun s => srcG s T) = args.map (Src.ev t) := List.map_congr_left fun s _ => hT.ev s
 rw [hT.ev, ha] at h1
 refine ⟨v, H', _, ?_, hT.put d v, h4⟩
 simp only [opA, Option.bind_eq_bind, h1, Option.bind_some, h3]
theorem amq {nt i : Nat} {d : Option Nat} {f : Nat} {args : List Src} : ImpV nt i (ocz f (fun T => args.map fun s => srcG s T) (ptN nt d)) d (.call (.c (.fn (.func f) [] [])) args) := by
 intro calF calA hc T t H n y r hT hr
 unfold ocz at hr
 obtain ⟨v, H', h3, h4⟩ := hc _ _ _ _ hr
 simp only at h3
 have ha : (args.map fun s => srcG s T) = args.map (Src.ev t) := List.map_congr_left fun s _ => hT.ev s
 rw [ha] at h3
 refine ⟨v, H', _, ?_, hT.put d v, h4⟩
 simp only [opA, Option.bind_eq_bind, Src.ev, aco, List.nil_append, List.append_nil, Option.bind_some, h3]
theorem ao0 {cal : Cal} {ev : Src → AV} {H : Heap} {id : Nat} {op : AOp} {v : AV} (h : pureA ev op = some v) : opA cal ev H id op = some (v, H) := by
 cases op <;> first | (simp only [opA, h]; done) | (simp [pureA] at h; done)
theorem abn {nt i : Nat} {d : Option Nat} {f : PV} {op : AOp} (hf : PVok f op) : ImpV nt i (oP f (ptN nt d)) d op := by
 intro calF calA hc T t H n y r hT hr
 obtain ⟨v, h1, h2⟩ := hf T _ r hr
 rw [hT.evq] at h1
 exact ⟨v, H, _, ao0 h1, hT.put d v, h2⟩
theorem an6 {nt i : Nat} {d : Option Nat} {x : Src} : ImpV nt i (ol (srcG x) (ptN nt d)) d (.load none x) := by
 intro calF calA hc T t H n y r hT hr
 obtain ⟨v, h1, h2⟩ := akl hr
 rw [hT.ev] at h1
 exact ⟨v, H, _, by simp only [opA, pureA, heapA, h1]; rfl, hT.put d v, h2⟩
theorem am0 {nt i m : Nat} {d : Option Nat} {x : Src} : ImpV nt i (onz m (srcG x) (ptN nt d)) d (.load (some m) x) := by
 intro calF calA hc T t H n y r hT hr
 obtain ⟨v, h1, h2⟩ := ai5 hr
 rw [hT.ev] at h1
 exact ⟨v, H, _, by simp only [opA, pureA, heapA, h1]; rfl, hT.put d v, h2⟩
theorem am5 {nt i : Nat} {d : Option Nat} {x v : Src} : ImpV nt i (os1 (srcG x) (srcG v) (ptN nt d)) d (.store 1 x v) := by
 intro calF calA hc T t H n y r hT hr
 obtain ⟨H', h1, h2⟩ := ajy hr
 rw [hT.ev, hT.ev] at h1
 exact ⟨.undef, H', _, by simp only [opA, pureA, heapA, h1]; rfl, hT.put d _, h2⟩
theorem akg {nt i m : Nat} {d : Option Nat} {x v : Src} : ImpV nt i (ot m (srcG x) (srcG v) (ptN nt d)) d (.store m x v) := by
 intro calF calA hc T t H n y r hT hr
 obtain ⟨H', h1, h2⟩ := aiq hr
 rw [hT.ev, hT.ev] at h1
 exact ⟨.undef, H', _, by simp only [opA, pureA, heapA, h1]; rfl, hT.put d _, h2⟩
theorem ana {nt i ty : Nat} {z : List AV} {d : Option Nat} : ImpV nt i (oa ty z i (ptN nt d)) d (.alloc ty z) := by
 intro calF calA hc T t H n y r hT hr
 exact ⟨.ptr (y + i) 0, _, _, rfl, hT.put d _, hr⟩
theorem impV_box {nt i ty : Nat} {x : Src} {d : Option Nat} : ImpV nt i (ox ty (srcG x) i (ptN nt d)) d (.box ty x) := by
 intro calF calA hc T t H n y r hT hr
 obtain ⟨h1, h2⟩ := aai hr
 rw [ajc, ads, hT.ev] at h1
 rw [ads, hT.ev] at h2
 exact ⟨.ptr (y + i) 0, _, _, by simp only [opA, pureA, heapA]; exact if_pos h1, hT.put d _, h2⟩
theorem agm {nt i ty size len : Nat} {z : List AV} {ps : List ((Nat × Nat) × Src)} {d : Option Nat} : ImpV nt i (ob ty size z len (ps.map fun q => (q.1, srcG q.2)) i (ptN nt d)) d (.buildSlice ty size z len ps) := by
 intro calF calA hc T t H n y r hT hr
 obtain ⟨ds, h1, h2⟩ := aeq ps z _ r hr
 rw [hT.evq] at h1
 exact ⟨_, _, _, by simp only [opA, pureA, heapA, h1]; rfl, hT.put d _, h2⟩
theorem amd {nt i : Nat} {d : Option Nat} (op : AOp) : ImpV nt i (amc i (ptN nt d) op) d op := by
 unfold amc
 split
 ·exact impV_mv
 ·split
  ·exact abn vAdd_ok
  ·exact abn vSub_ok
  ·exact abn vMul_ok
  ·exact abn vLss_ok
  ·exact abn vGtr_ok
  ·exact abn vLeq_ok
  ·exact abn vGeq_ok
  ·exact abn vEql_ok
  ·exact abn vNeq_ok
  ·exact ali fun _ _ h => by cases h
 ·exact abn vLen_ok
 ·exact abn vIdx_ok
 ·exact abn vFA_ok
 ·exact abn vExt_ok
 ·exact an6
 ·exact am5
 ·exact ana
 ·exact abn vPick_ok
 ·exact am0
 ·exact akg
 ·exact impV_box
 ·exact abn ank
 ·exact agm
 ·rename_i f args
  unfold aod
  split
  ·exact amq
  ·exact anw
 ·rename_i h
  exact ali (by assumption)
theorem adq {nt i : Nat} (o : ROp) : ImpO nt i (denOp nt i o) o := by
 obtain ⟨d, op, g⟩ := o
 cases g with
 | none => exact am2 (amd op)
 | some p =>
  obtain ⟨g, w⟩ := p
  exact am4 (amd op)
theorem alj {nt : Nat} : ∀ (os : List ROp) (i : Nat), ImpS nt i (als nt i os) os
 | [], i => fun calF calA _ T t H n x r hT hr => ⟨t, H, T, rfl, hT, hr⟩
 | [o], i => fun calF calA hc T t H n x r hT hr => adq o calF calA hc T t H n x r hT hr
 | o :: o' :: os, i => by
  intro calF calA hc T t H n x r hT hr
  simp only [als, oq] at hr
  obtain ⟨t1, H1, T1, h1, h2, h3⟩ := adq o calF calA hc T t H _ x r hT hr
  obtain ⟨t2, H2, T2, k1, k2, k3⟩ := alj (o' :: os) (i + 1) calF calA hc T1 t1 H1 n x r h2 h3
  exact ⟨t2, H2, T2, by rw [aox h1]; exact k1, k2, k3⟩
/-! ### Code -/
def Imp (m : Nat) (rd : Bool) (nt : Nat) (c : Comp) (ac : ACode) : Prop := ∀ calF calA, ab7 calF calA → ∀ (T : Tq) (t : Tm) (H : Heap) (n : K1) (e : Nat → K1) (r : AV × Heap), TRel nt T t → c calF T H n e = some r →
 ∃ x t' H' T', codeA calA m rd ac t H = some (x, t', H') ∧ TRel nt T' t' ∧ kont n e x T' H' = some r
theorem ahs {calF : CalK} {calA : Cal} (h : ab7 calF calA) {t : Task} {H : Heap} {v : AV} {H' : Heap} (hv : calD calF t H = some (v, H')) : calA t H = some (v, H') := by
 obtain ⟨v', H1, h1, h2⟩ := h _ _ _ _ hv
 cases h2; exact h1
/-! ### More calls, no less -/
def Le (c c' : Cal) : Prop := ∀ t H r, c t H = some r → c' t H = some r
section
variable {c c' : Cal}
theorem ahu (h : Le c c') {ev : Src → AV} {H : Heap} {id : Nat} {op : AOp} {r : AV × Heap} (hr : opA c ev H id op = some r) : opA c' ev H id op = some r := by
 cases op <;> first | exact hr | skip
 simp only [opA, Option.bind_eq_bind, bes] at hr ⊢
 obtain ⟨t, ht, hr⟩ := hr
 exact ⟨t, ht, h _ _ _ hr⟩
theorem ab3 (h : Le c c') : ∀ (os : List ROp) (id : Nat) (t : Tm) (H : Heap) (r : Tm × Heap), opsA c id os t H = some r → opsA c' id os t H = some r
 | [], id, t, H, r, hr => hr
 | o :: os, id, t, H, r, hr => by
  simp only [opsA] at hr ⊢
  split at hr
  ·split at hr
   ·rename_i v H' hv
    rw [ahu h hv]
    exact ab3 h os _ _ _ _ hr
   ·cases hr
  ·exact ab3 h os _ _ _ _ hr
  ·cases hr
theorem akv (h : Le c c') {base : Nat} {T0 : Tm} {i : Nat} {d : DOp} {s s' : DS} (hr : aau c base T0 i d s = some s') : aau c' base T0 i d s = some s' := by
 unfold aau at hr ⊢
 cases hw : aae (useT T0 s.Vs d.uses) d.guard with
 | none => simp only [hw] at hr; cases hr
 | some b =>
  cases b with
  | false => simp only [hw] at hr ⊢; exact hr
  | true =>
   simp only [hw] at hr ⊢
   split at hr
   ·exact hr
   ·exact hr
   ·split at hr
    ·split at hr
     ·rename_i v H' hv
      cases hr
      simp only [ahu h hv]
     ·cases hr
    ·cases hr
theorem adm (h : Le c c') {base : Nat} {T0 : Tm} : ∀ (ds : List DOp) (i : Nat) (s s' : DS), ab4 c base T0 i ds s = some s' → ab4 c' base T0 i ds s = some s'
 | [], i, s, s', hr => hr
 | d :: ds, i, s, s', hr => by
  simp only [ab4] at hr ⊢
  split at hr
  ·rename_i s1 h1
   rw [akv h h1]
   exact adm h ds _ _ _ hr
  ·cases hr
theorem ahh (h : Le c c') {ds : List DOp} {late : List Nat} {t : Tm} {H : Heap} {r : Tm × Heap} (hr : drawA c ds late t H = some r) : drawA c' ds late t H = some r := by
 unfold drawA at hr ⊢
 split at hr
 ·cases hr
 ·rename_i s hs
  rw [adm h _ _ _ _ hs]
  exact hr
theorem ai9 {f g : Tm → Heap → Option (Ex × Tm × Heap)} (h : ∀ t H r, f t H = some r → g t H = some r) : ∀ (k : Nat) (t : Tm) (H : Heap) (r : Ex × Tm × Heap), iter f k t H = some r → iter g k t H = some r
 | 0, t, H, r, hr => by cases hr
 | k + 1, t, H, r, hr => by
  simp only [iter] at hr ⊢
  split at hr
  ·rename_i T' H' h1
   rw [h _ _ _ h1]
   exact ai9 h k _ _ _ hr
  ·rename_i hne
   have := h _ _ _ hr
   rw [this]
   obtain ⟨x, t', H'⟩ := r
   cases x <;> first | rfl | exact absurd hr (hne _ _)
theorem ahe {l : Nat} {f g : Tm → Heap → Option (Ex × Tm × Heap)} (h : ∀ t H r, f t H = some r → g t H = some r) : ∀ (k : Nat) (t : Tm) (H : Heap) (r : Ex × Tm × Heap), iterG l f k t H = some r → iterG l g k t H = some r
 | 0, t, H, r, hr => by cases hr
 | k + 1, t, H, r, hr => by
  simp only [iterG] at hr ⊢
  split at hr
  ·rename_i l' T' H' h1
   rw [h _ _ _ h1]
   simp only
   split at hr
   ·rename_i e
    rw [if_pos e]
    exact ahe h k _ _ _ hr
   ·cases hr
  ·rename_i hne
   have := h _ _ _ hr
   rw [this]
   obtain ⟨x, t', H'⟩ := r
   cases x <;> first | rfl | exact absurd hr (hne _ _ _)
theorem agh (h : Le c c') {ds : List DOp} {late mid : List Nat} {last : DOp} {T : Tm} {H : Heap} {r : Tm × Heap} (hr : ad6 c ds late last mid T H = some r) : ad6 c' ds late last mid T H = some r := by
 unfold ad6 at hr ⊢
 cases hd : ab4 c H.next T 0 ds ⟨[], [{ H with next := H.next + (ds.length + 1) }], []⟩ with
 | none => rw [hd] at hr; cases hr
 | some s => rw [hd] at hr; rw [adm h _ _ _ _ hd]; exact hr
theorem aa8 (h : Le c c') {m : Nat} {rd : Bool} : ∀ (ac : ACode) (t : Tm) (H : Heap) (r : Ex × Tm × Heap), codeA c m rd ac t H = some r → codeA c' m rd ac t H = some r := by
 intro ac
 induction ac with
 | skip => intro t H r hr; exact hr
 | exit i => intro t H r hr; exact hr
 | goto l => intro t H r hr; exact hr
 | ret => intro t H r hr; exact hr
 | region ops =>
  intro t H r hr
  simp only [codeA] at hr ⊢
  split at hr
  ·rename_i T' H' h1
   rw [ab3 h _ _ _ _ _ h1]; exact hr
  ·cases hr
 | draw ds late =>
  intro t H r hr
  simp only [codeA] at hr ⊢
  split at hr
  ·rename_i T' H' h1
   rw [ahh h h1]; exact hr
  ·cases hr
 | seq a b iha ihb =>
  intro t H r hr
  simp only [codeA] at hr ⊢
  split at hr
  ·rename_i T' H' h1
   rw [iha _ _ _ h1]
   exact ihb _ _ _ hr
  ·rename_i hne
   have := iha _ _ _ hr
   rw [this]
   obtain ⟨x, t', H'⟩ := r
   cases x <;> first | rfl | exact absurd hr (hne _ _)
 | cond s a b iha ihb =>
  intro t H r hr
  simp only [codeA] at hr ⊢
  split at hr
  ·exact iha _ _ _ hr
  ·exact ihb _ _ _ hr
  ·cases hr
 | block id a iha =>
  intro t H r hr
  simp only [codeA] at hr ⊢
  split at hr
  ·rename_i i T' H' h1
   rw [iha _ _ _ h1]
   exact hr
  ·rename_i hne
   have := iha _ _ _ hr
   rw [this]
   obtain ⟨x, t', H'⟩ := r
   cases x <;> first | rfl | exact absurd hr (hne _ _ _)
 | loop a iha =>
  intro t H r hr
  simp only [codeA] at hr ⊢
  exact ai9 iha _ _ _ _ hr
 | drawF ds late last mid =>
  intro t H r hr
  simp only [codeA] at hr ⊢
  split at hr
  ·rename_i T' H' h1
   rw [agh h h1]; exact hr
  ·cases hr
 | rangeM pre x it nx ex b1 b2 en os rest W ih =>
  intro t H r hr
  simp only [codeA] at hr ⊢
  cases ho : opsA c H.next pre t { H with next := H.next + (pre.length + 1) } with
  | none => rw [ho] at hr; cases hr
  | some p =>
   obtain ⟨T1, H1⟩ := p
   rw [ho] at hr; rw [ab3 h _ _ _ _ _ ho]
   simp only at hr ⊢
   split at hr
   ·rename_i b hb
    split at hr
    ·rename_i es hes
     split at hr
     ·rename_i hchk
      rw [if_pos, ← hr]
      simp only [Bool.and_eq_true] at hchk ⊢
      obtain ⟨c1, c2, c3, c4, c5⟩ := hchk
      refine ⟨c1, c2, c3, c4, ?_⟩
      rw [List.all_eq_true] at c5 ⊢
      intro p hp
      have := c5 p hp
      split at this
      ·rename_i T3 H3 h3
       rw [ab3 h _ _ _ _ _ h3]
       simp only
       cases hc : codeA c m rd rest T3 H3 with
       | none => rw [hc] at this; cases this
       | some q => rw [hc] at this; rw [ih _ _ _ hc]; exact this
      ·cases this
     ·cases hr
    ·cases hr
   ·cases hr
 | scope a iha =>
  intro t H r hr
  simp only [codeA] at hr ⊢
  split at hr
  ·cases hr
  ·rename_i hne
   rw [iha _ _ _ hr]
   obtain ⟨x, t', H'⟩ := r
   cases x with
   | goto l => exact absurd hr (hne _ _ _)
   | _ => rfl
 | scopeL a l rest iha ihr =>
  intro t H r hr
  simp only [codeA] at hr ⊢
  split at hr
  ·rename_i l' T' H' h1
   rw [iha _ _ _ h1]
   simp only
   split at hr
   ·rename_i e
    rw [if_pos e]
    exact ahe ihr _ _ _ _ hr
   ·cases hr
  ·rename_i hne
   rw [iha _ _ _ hr]
   obtain ⟨x, t', H'⟩ := r
   cases x with
   | goto l => exact absurd hr (hne _ _ _)
   | _ => rfl
 | rangeFunc f ps asg body iha ihb =>
  intro t H r hr
  simp only [codeA] at hr ⊢
  split at hr
  ·cases hr
  ·rename_i hrd
   rw [if_neg hrd]
   split at hr
   ·rename_i fi args ht
    split at hr
    ·rename_i v H2 h2
     rw [h _ _ _ h2]
     exact hr
    ·cases hr
   ·cases hr
theorem aev (h : Le c c') {m : Nat} {fn : AFn} {args : List AV} {H : Heap} {r : AV × Heap} (hr : runFn c m fn args H = some r) : runFn c' m fn args H = some r := by
 unfold runFn at hr ⊢
 split at hr
 ·rename_i ha
  rw [if_pos ha]
  split at hr
  ·rename_i T H' h1
   rw [aa8 h _ _ _ _ h1]; exact hr
  ·rename_i T H' h1
   rw [aa8 h _ _ _ _ h1]; exact hr
  ·cases hr
 ·cases hr
theorem af7 {pc : PCal} (h : Le c c') : ∀ (os : List ROp) (id : Nat) (T : Tm) (H : Heap) (r : Option AV × Tm × Heap), opsX c pc id os T H = some r → opsX c' pc id os T H = some r
 | [], id, T, H, r, hr => hr
 | o :: os, id, T, H, r, hr => by
  simp only [opsX] at hr ⊢
  cases hw : aae T o.guard with
  | none => rw [hw] at hr; cases hr
  | some wt =>
   rw [hw] at hr
   cases wt with
   | false => exact af7 h os _ _ _ _ hr
   | true =>
    simp only at hr ⊢
    cases hp : opP pc (Src.ev T) H o.op with
    | some r => rw [hp] at hr; exact hr
    | none =>
     rw [hp] at hr
     simp only at hr ⊢
     cases ho : opA c (Src.ev T) H id o.op with
     | none => rw [ho] at hr; cases hr
     | some r' => rw [ho] at hr; rw [ahu h ho]; exact af7 h os _ _ _ _ hr
theorem ahn {f g : Tm → Heap → Option (Xx × Tm × Heap)} (h : ∀ T H r, f T H = some r → g T H = some r) : ∀ (k : Nat) (T : Tm) (H : Heap) (r : Xx × Tm × Heap), iterX f k T H = some r → iterX g k T H = some r
 | 0, T, H, r, hr => by cases hr
 | k + 1, T, H, r, hr => by
  simp only [iterX] at hr ⊢
  split at hr
  ·rename_i T1 H1 h1
   rw [h _ _ _ h1]
   exact ahn h k _ _ _ hr
  ·rename_i hne
   rw [h _ _ _ hr]
   obtain ⟨x, T', H'⟩ := r
   cases x with
   | pan v => rfl
   | ex e => cases e <;> first | rfl | exact absurd hr (hne _ _)
theorem ag2 {pc : PCal} (h : Le c c') {m : Nat} {rd : Bool} : ∀ (ac : ACode) (T : Tm) (H : Heap) (r : Xx × Tm × Heap), codeX c pc m rd ac T H = some r → codeX c' pc m rd ac T H = some r := by
 intro ac
 have other : ∀ (ac : ACode) (T : Tm) (H : Heap) (r : Xx × Tm × Heap), (match codeA c m rd ac T H with | some (x, T', H') => some (Xx.ex x, T', H') | none => none) = some r → (match codeA c' m rd ac T H with | some (x, T', H') => some (Xx.ex x, T', H') | none => none) = some r := by
  intro ac T H r hr
  split at hr
  ·rename_i x T1 H1 h1
   rw [aa8 h _ _ _ _ h1]; exact hr
  ·cases hr
 induction ac with
 | skip => intro T H r hr; exact other .skip _ _ _ hr
 | exit i => intro T H r hr; exact other (.exit i) _ _ _ hr
 | goto l => intro T H r hr; exact other (.goto l) _ _ _ hr
 | ret => intro T H r hr; exact other .ret _ _ _ hr
 | rangeFunc f ps a b _ _ => intro T H r hr; exact other (.rangeFunc f ps a b) _ _ _ hr
 | rangeM pre x it nx ex b1 b2 en os rest W _ => intro T H r hr; exact other (.rangeM pre x it nx ex b1 b2 en os rest W) _ _ _ hr
 | scopeL a l rest _ _ => intro T H r hr; exact other (.scopeL a l rest) _ _ _ hr
 | region ops =>
  intro T H r hr
  simp only [codeX] at hr ⊢
  cases ho : opsX c pc H.next ops T { H with next := H.next + ops.length } with
  | none => rw [ho] at hr; cases hr
  | some r' => rw [ho] at hr; rw [af7 h _ _ _ _ _ ho]; exact hr
 | draw ds late =>
  intro T H r hr
  simp only [codeX] at hr ⊢
  cases hp : drawP pc ds [] T H with
  | some p => rw [hp] at hr; exact hr
  | none =>
   rw [hp] at hr
   simp only at hr ⊢
   cases hd : drawA c ds late T H with
   | none => rw [hd] at hr; cases hr
   | some p => obtain ⟨T1, H1⟩ := p; rw [hd] at hr; rw [ahh h hd]; exact hr
 | drawF ds late last mid =>
  intro T H r hr
  simp only [codeX] at hr ⊢
  cases hp : drawP pc ds mid T H with
  | some p => rw [hp] at hr; exact hr
  | none =>
   rw [hp] at hr
   simp only at hr ⊢
   cases hd : ad6 c ds late last mid T H with
   | none => rw [hd] at hr; cases hr
   | some p => obtain ⟨T1, H1⟩ := p; rw [hd] at hr; rw [agh h hd]; exact hr
 | seq a b iha ihb =>
  intro T H r hr
  simp only [codeX] at hr ⊢
  split at hr
  ·rename_i T1 H1 h1
   rw [iha _ _ _ h1]
   exact ihb _ _ _ hr
  ·rename_i hne
   rw [iha _ _ _ hr]
   obtain ⟨x, T', H'⟩ := r
   cases x with
   | pan v => rfl
   | ex e => cases e <;> first | rfl | exact absurd hr (hne _ _)
 | cond s a b iha ihb =>
  intro T H r hr
  simp only [codeX] at hr ⊢
  split at hr
  ·exact iha _ _ _ hr
  ·exact ihb _ _ _ hr
  ·cases hr
 | block id a iha =>
  intro T H r hr
  simp only [codeX] at hr ⊢
  split at hr
  ·rename_i i T1 H1 h1
   rw [iha _ _ _ h1]
   exact hr
  ·rename_i hne
   rw [iha _ _ _ hr]
   obtain ⟨x, T', H'⟩ := r
   cases x with
   | pan v => rfl
   | ex e => cases e <;> first | rfl | exact absurd hr (hne _ _ _)
 | loop a iha =>
  intro T H r hr
  simp only [codeX] at hr ⊢
  exact ahn iha _ _ _ _ hr
 | scope a iha =>
  intro T H r hr
  simp only [codeX] at hr ⊢
  split at hr
  ·cases hr
  ·rename_i hne
   rw [iha _ _ _ hr]
   obtain ⟨x, T', H'⟩ := r
   cases x with
   | pan v => rfl
   | ex e => cases e <;> first | rfl | exact absurd hr (hne _ _ _)
theorem ami {pc : PCal} (h : Le c c') {m : Nat} : ∀ (ab : ABody) (T : Tm) (H : Heap) (r : Option AV × Option AV × Tm × Heap), bodyB c pc m ab T H = some r → bodyB c' pc m ab T H = some r := by
 intro ab
 induction ab with
 | code ac =>
  intro T H r hr
  simp only [bodyB] at hr ⊢
  cases hx : codeX c pc m false ac T H with
  | none => rw [hx] at hr; cases hr
  | some p => rw [hx] at hr; rw [ag2 h _ _ _ _ hx]; exact hr
 | seq ac b ih =>
  intro T H r hr
  simp only [bodyB] at hr ⊢
  cases hx : codeX c pc m false ac T H with
  | none => rw [hx] at hr; cases hr
  | some p =>
   rw [hx] at hr; rw [ag2 h _ _ _ _ hx]
   obtain ⟨x, T1, H1⟩ := p
   cases x with
   | pan v => exact hr
   | ex e => cases e <;> first | exact hr | exact ih _ _ _ hr
 | dfr ops f b ih =>
  intro T H r hr
  simp only [bodyB] at hr ⊢
  cases ho : opsA c H.next ops T { H with next := H.next + (ops.length + 1) } with
  | none => rw [ho] at hr; cases hr
  | some p =>
   obtain ⟨T1, H1⟩ := p
   rw [ho] at hr; rw [ab3 h _ _ _ _ _ ho]
   simp only at hr ⊢
   split at hr
   ·rename_i g fs cs hf
    cases hb : bodyB c pc m b T1 H1 with
    | none => rw [hb] at hr; cases hr
    | some p => rw [hb] at hr; rw [ih _ _ _ hb]; exact hr
   ·cases hr
theorem ak2 {tab : Nat → Option AFn} (h : Le c c') {m : Nat} {p : Option AV} {fv : AV} {H : Heap} {r : Heap} (hr : af4 tab c m p fv H = some r) : af4 tab c' m p fv H = some r := by
 unfold af4 at hr ⊢
 split at hr
 ·split at hr
  ·split at hr
   ·split at hr
    ·rename_i ha
     rw [if_pos ha]
     cases hx : codeA c m false _ _ H with
     | none => rw [hx] at hr; cases hr
     | some q => rw [hx] at hr; rw [aa8 h _ _ _ _ hx]; exact hr
    ·cases hr
   ·cases hr
  ·cases hr
 ·cases hr
theorem akk {tab : Nat → Option AFn} {pc : PCal} (h : Le c c') {m : Nat} {fn : AFn} {b : ABody} {args : List AV} {H : Heap} {r : AV × Heap} (hr : ag9 tab c pc m fn b args H = some r) : ag9 tab c' pc m fn b args H = some r := by
 unfold ag9 at hr ⊢
 split at hr
 ·rename_i ha
  rw [if_pos ha]
  cases hb : bodyB c pc m b (args ++ List.replicate (fn.ntmps - args.length) .undef) H with
  | none => rw [hb] at hr; cases hr
  | some q =>
   rw [hb] at hr; rw [ami h _ _ _ _ hb]
   obtain ⟨p, d, T, H'⟩ := q
   cases d with
   | none => cases p <;> exact hr
   | some fv =>
    simp only at hr ⊢
    cases hv : af4 tab c m p fv H' with
    | none => rw [hv] at hr; cases hr
    | some H2 => rw [hv] at hr; rw [ak2 h hv]; exact hr
 ·cases hr
theorem amz {tab : Nat → Option AFn} {pc : PCal} (h : Le c c') {m : Nat} {t : Task} {H : Heap} {r : AV × Heap} (hr : runA1 tab pc c m t H = some r) : runA1 tab pc c' m t H = some r := by
 cases t with
 | fn f args =>
  simp only [runA1] at hr ⊢
  split at hr
  ·cases hr
  ·rename_i fn hfn
   split at hr
   ·exact akk h hr
   ·rename_i str gs ty _
    cases hk : keysA H str gs ty args with
    | some q => rw [hk] at hr; exact hr
    | none => rw [hk] at hr; exact aev h hr
   ·exact hr
   ·exact aev h hr
 | ent f args =>
  simp only [runA1] at hr ⊢
  split at hr
  ·cases hr
  ·rename_i fn hfn
   split at hr
   ·cases hr
   ·exact aev h hr
 | round b args =>
  simp only [runA1] at hr ⊢
  split at hr
  ·rename_i T ps asg body hb
   split at hr
   ·rename_i ha
    rw [if_pos ha]
    split at hr
    ·rename_i T1 H1 h1
     rw [aa8 h _ _ _ _ h1]
     split at hr
     ·rename_i T1' ps1 asg1 body1 hb1
      simp only [hb1]
      split at hr
      ·rename_i x T2 H2 h2
       rw [aa8 h _ _ _ _ h2]
       exact hr
      ·cases hr
     ·cases hr
    ·cases hr
   ·cases hr
  ·cases hr
end
end Go.Proofs.YtcmbokfnglkfnaaGreatDoor.Ev

namespace Go.Proofs.YtcmbokfnglkfnaaGreatDoor.Ev
open Go
set_option linter.all false
/-! ### What an operation answers hangs on its slots alone -/
section
variable {ev ev' : Src → AV}
theorem afy {op : AOp} (h : ∀ s, (∀ n ∈ srcT s, n ∈ op.slots) → ev s = ev' s) : pureA ev op = pureA ev' op := by
 cases op
 case build z ps =>
  have e : (ps.map fun p => (p.1, ev p.2)) = ps.map fun p => (p.1, ev' p.2) := List.map_congr_left fun p hp => by
   rw [h p.2 fun n hn => by simp only [AOp.slots, List.mem_flatMap]; exact ⟨p, hp, hn⟩]
  simp only [pureA, e]
 case mkfn f a b =>
  have e1 : a.map ev = a.map ev' := List.map_congr_left fun s hs => h s fun n hn => by simp only [AOp.slots, List.mem_append, List.mem_flatMap]; exact .inl ⟨s, hs, hn⟩
  have e2 : b.map ev = b.map ev' := List.map_congr_left fun s hs => h s fun n hn => by simp only [AOp.slots, List.mem_append, List.mem_flatMap]; exact .inr ⟨s, hs, hn⟩
  simp only [pureA, e1, e2]
 case min xs =>
  have e1 : xs.map ev = xs.map ev' := List.map_congr_left fun s hs => h s fun n hn => by simp only [AOp.slots, List.mem_flatMap]; exact ⟨s, hs, hn⟩
  simp only [pureA, e1]
 case max xs =>
  have e1 : xs.map ev = xs.map ev' := List.map_congr_left fun s hs => h s fun n hn => by simp only [AOp.slots, List.mem_flatMap]; exact ⟨s, hs, hn⟩
  simp only [pureA, e1]
 case slice size x a b c =>
  have ex := h x fun n hn => by simp [AOp.slots, hn]
  have e : ∀ o : Option Src, (∀ n ∈ oT o, n ∈ (AOp.slice size x a b c).slots) → o.map ev = o.map ev' := fun o ho => by
   cases o with
   | none => rfl
   | some s => simp only [Option.map_some]; rw [h s ho]
  simp only [pureA, ex, e a (fun n hn => by simp [AOp.slots, hn]), e b (fun n hn => by simp [AOp.slots, hn]), e c (fun n hn => by simp [AOp.slots, hn])]
 case sliceStr x a b =>
  have ex := h x fun n hn => by simp [AOp.slots, hn]
  have e : ∀ o : Option Src, (∀ n ∈ oT o, n ∈ (AOp.sliceStr x a b).slots) → o.map ev = o.map ev' := fun o ho => by
   cases o with
   | none => rfl
   | some s => simp only [Option.map_some]; rw [h s ho]
  simp only [pureA, ex, e a (fun n hn => by simp [AOp.slots, hn]), e b (fun n hn => by simp [AOp.slots, hn])]
 all_goals
  simp only [pureA]
  try (repeat rw [h _ (fun n hn => by simp [AOp.slots, hn])])
theorem agd {op : AOp} {H : Heap} {id : Nat} (h : ∀ s, (∀ n ∈ srcT s, n ∈ op.slots) → ev s = ev' s) : heapA ev H id op = heapA ev' H id op := by
 cases op
 case buildSlice ty size z len ps =>
  have e : (ps.map fun p => (p.1, ev p.2)) = ps.map fun p => (p.1, ev' p.2) := List.map_congr_left fun p hp => by
   rw [h p.2 fun n hn => by simp only [AOp.slots, List.mem_flatMap]; exact ⟨p, hp, hn⟩]
  simp only [heapA, e]
 case append size bytes ty z x y =>
  have e1 := h x fun n hn => by simp [AOp.slots, hn]
  have e2 := h y fun n hn => by simp [AOp.slots, hn]
  simp only [heapA, e1, e2]
 case mksl ty size bytes z x y =>
  have e1 := h x fun n hn => by simp [AOp.slots, hn]
  have e2 := h y fun n hn => by simp [AOp.slots, hn]
  simp only [heapA, e1, e2]
 case box ty x =>
  have e1 := h x fun n hn => by simp [AOp.slots, hn]
  simp only [heapA, e1]
 all_goals
  simp only [heapA]
  try (repeat rw [h _ (fun n hn => by simp [AOp.slots, hn])])
theorem ajp {op : AOp} {cal : Cal} {H : Heap} {id : Nat} (h : ∀ s, (∀ n ∈ srcT s, n ∈ op.slots) → ev s = ev' s) : opA cal ev H id op = opA cal ev' H id op := by
 cases op
 case call f args =>
  have e1 := h f fun n hn => by simp [AOp.slots, hn]
  have e2 : args.map ev = args.map ev' := List.map_congr_left fun s hs => h s fun n hn => by simp only [AOp.slots, List.mem_append, List.mem_flatMap]; exact .inr ⟨s, hs, hn⟩
  simp only [opA, e1, e2]
 all_goals
  simp only [opA]
  rw [afy h, agd h]
end
theorem ev_slots {op : AOp} {t t' : Tm} (h : ∀ n ∈ op.slots, getT t n = getT t' n) : ∀ s, (∀ n ∈ srcT s, n ∈ op.slots) → Src.ev t s = Src.ev t' s := by
 intro s hs
 cases s with
 | c v => rfl
 | t n => exact h n (hs n (by simp [srcT]))
/-! ### Slots, by the operation that has filled them -/
theorem al2 (T0 : Tm) (Vs : List AV) : ∀ (us : List (Nat × Option Nat)) (T : Tm) (n : Nat), n < T.length →
  getT (us.foldl (fun T u => T.set u.1 (useV T0 Vs u)) T) n = match useOf us n with | some u => useV T0 Vs (n, u) | none => getT T n
 | [], T, n, hn => rfl
 | u :: us, T, n, hn => by
  rw [List.foldl_cons, al2 T0 Vs us _ n (by rw [List.length_set]; exact hn)]
  simp only [useOf]
  cases h : useOf us n with
  | some x => rfl
  | none =>
   simp only
   by_cases e : u.1 = n
   ·subst e
    rw [if_pos rfl]
    simp only [getT, List.getD_eq_getElem?_getD]
    rw [List.getElem?_set_self hn]
    rfl
   ·rw [if_neg e]
    simp only [getT, List.getD_eq_getElem?_getD]
    rw [List.getElem?_set_ne e]
theorem ame {T0 : Tm} {Vs : List AV} {us : List (Nat × Option Nat)} {n : Nat} {u : Option Nat} (hn : n < T0.length) (h : useOf us n = some u) : getT (useT T0 Vs us) n = useV T0 Vs (n, u) := by
 unfold useT
 rw [al2 _ _ _ _ _ (by rw [List.length_replicate]; exact hn), h]
theorem ac7 : ∀ (ds : List DOp) (Vs : List AV) (T : Tm) (n : Nat), Vs.length = ds.length → n < T.length →
  getT (aar T ds Vs) n = useV T Vs (n, aa2 ds n)
 | [], [], T, n, _, hn => rfl
 | d :: ds, v :: vs, T, n, hl, hn => by
  simp only [aar, aa2]
  have hl : vs.length = ds.length := by simpa using hl
  have hlen : (putT T d.dst v).length = T.length := by cases d.dst <;> simp [putT]
  rw [ac7 ds vs _ n hl (by rw [hlen]; exact hn)]
  cases h : aa2 ds n with
  | some j => simp [useV]
  | none =>
   simp only [useV]
   by_cases e : d.dst = some n
   ·rw [if_pos e, e]
    simp only [putT, getT, List.getD_eq_getElem?_getD]
    rw [List.getElem?_set_self hn]
    rfl
   ·rw [if_neg e]
    cases hd : d.dst with
    | none => rfl
    | some x =>
     simp only [putT, getT, List.getD_eq_getElem?_getD]
     rw [List.getElem?_set_ne (fun h => e (by rw [hd, h]))]
theorem agx : ∀ (ds : List DOp) (n j : Nat), aa2 ds n = some j → j < ds.length
 | [], n, j, h => by cases h
 | d :: ds, n, j, h => by
  simp only [aa2] at h
  split at h
  ·rename_i j' hj
   cases h
   have := agx ds n _ hj
   simp; omega
  ·split at h
   ·cases h; simp
   ·cases h
theorem useV_pre {T : Tm} {Vs Vs' : List AV} {n : Nat} {u : Option Nat} (hp : Vs <+: Vs') (hu : ∀ j, u = some j → j < Vs.length) : useV T Vs' (n, u) = useV T Vs (n, u) := by
 cases u with
 | none => rfl
 | some j => exact aas hp (hu j rfl) _
theorem akj {t t' : Tm} {g : Option (Nat × Bool)} (hl : t.length = t'.length) (h : ∀ n w, g = some (n, w) → n < t.length ∧ getT t n = getT t' n) : aae t g = aae t' g := by
 cases g with
 | none => rfl
 | some p =>
  obtain ⟨n, w⟩ := p
  obtain ⟨h1, h2⟩ := h n w rfl
  have e : t[n]? = t'[n]? := by
   simp only [getT, List.getD_eq_getElem?_getD] at h2
   rw [List.getElem?_eq_getElem h1, List.getElem?_eq_getElem (by omega : n < t'.length)] at h2 ⊢
   simpa using h2
  simp only [aae, e]
/-! ### The fast side's lists -/
theorem aki : ∀ (Cs : List Heap) (n : Nat), nthH Cs n = Cs.getD n default
 | [], n => rfl
 | a :: l, 0 => rfl
 | a :: l, n + 1 => by show nthH l n = _; rw [aki l n, List.getD_cons_succ]
theorem aoy : ∀ (Es : List (Option Ent)) (n : Nat), nthE Es n = Es.getD n none
 | [], n => rfl
 | a :: l, 0 => rfl
 | a :: l, n + 1 => by show nthE l n = _; rw [aoy l n, List.getD_cons_succ]
theorem al3 {α : Type} {l : List α} {k i : Nat} {d : α} (hl : l.length = i) (hk : k < i) : l.reverse.getD (i - 1 - k) d = l.getD k d := by
 rw [List.getD_eq_getElem?_getD, List.getD_eq_getElem?_getD, List.getElem?_reverse (by omega)]
 congr 2
 omega
theorem akr {x i : Nat} {Es : List (Option Ent)} (hl : Es.length = i) : ∀ (adds : List Nat) (H : Heap), (∀ a ∈ adds, a < i) → addF x Es.reverse (abp i adds) H = addE x Es H adds
 | [], H, _ => rfl
 | a :: adds, H, h => by
  have e1 : addF x Es.reverse (abp i (a :: adds)) H = addF x Es.reverse (abp i adds) (@Option.rec Ent (fun _ => Heap) H (fun e => H.put (Nat.add x a) e) (nthE Es.reverse (i - 1 - a))) := rfl
  have e2 : addE x Es H (a :: adds) = addE x Es (match Es.getD a none with | some e => H.put (x + a) e | none => H) adds := rfl
  rw [e1, e2, akr hl adds _ (fun b hb => h b (List.mem_cons_of_mem _ hb)), aoy, al3 hl (h a (List.mem_cons_self ..))]
  cases Es.getD a none <;> rfl
theorem ak0 {x i acts k : Nat} {adds : List Nat} {Cs : List Heap} {Es : List (Option Ent)} (hC : Cs.length = acts + 1) (hE : Es.length = i) (hk : k ≤ acts) (ha : ∀ a ∈ adds, a < i) :
  selH (acts - k) (abp i adds) x Cs.reverse Es.reverse = addE x Es (Cs.getD k default) adds := by
 unfold selH
 rw [aki, akr hE _ _ ha]
 have e := al3 (d := (default : Heap)) hC (show k < acts + 1 by omega)
 rw [show acts - k = acts + 1 - 1 - k by omega, e]
theorem aff {acts i : Nat} {p : Nat × List Nat} (h : okP acts i p = true) : p.1 ≤ acts ∧ ∀ a ∈ p.2, a < i := by
 unfold okP at h
 simp only [Bool.and_eq_true, List.all_eq_true] at h
 exact ⟨Nat.le_of_ble_eq_true h.1, fun a ha => Nat.le_of_ble_eq_true (h.2 a ha)⟩
mutual
theorem AV.beq_refl : ∀ (a : AV), AV.beq a a = true
 | .undef => rfl
 | .bool a => by simp [AV.beq]
 | .int k a => by simp [AV.beq]
 | .str a => by simp [AV.beq]
 | .nilPtr => rfl
 | .nilSl => rfl
 | .nilFn => rfl
 | .nilIf => rfl
 | .nilMap => rfl
 | .agg a => by simp only [AV.beq]; exact AV.beqs_refl a
 | .tup a => by simp only [AV.beq]; exact AV.beqs_refl a
 | .sl a n => by simp [AV.beq, AV.beqs_refl a]
 | .dp a n => by simp [AV.beq, AV.beqs_refl a]
 | .own .. => by simp [AV.beq]
 | .ptr .. => by simp [AV.beq]
 | .fn f a c => by simp [AV.beq, AV.beqs_refl a, AV.beqs_refl c]
 | .ifc t a => by simp [AV.beq, AV.beq_refl a]
 | .map a => by simp [AV.beq]
 | .loopv a => by simp [AV.beq]
theorem AV.beqs_refl : ∀ (a : List AV), AV.beqs a a = true
 | [] => rfl
 | x :: a => by simp only [AV.beqs, AV.beq_refl x, AV.beqs_refl a, Bool.and_self]
end
/-! ### One operation -/
structure DRel (nt : Nat) (T0 : Tm) (pre : List DOp) (acts : Nat) (T : Tq) (CsF : List Heap) (EsF : List (Option Ent)) (s : DS) : Prop where
 t : TRel nt T (aar T0 pre s.Vs)
 c : CsF = s.Cs.reverse
 e : EsF = s.Es.reverse
 lv : s.Vs.length = pre.length
 le : s.Es.length = pre.length
 lc : s.Cs.length = acts + 1
theorem alz {cal : Cal} {id : Nat} {d : Option Nat} {op : AOp} {g : Option (Nat × Bool)} {t t' : Tm} {H H' : Heap} (h : stepA cal id ⟨d, op, g⟩ t H = some (t', H')) :
  (aae t g = some true ∧ ∃ v, opA cal (Src.ev t) H id op = some (v, H') ∧ t' = putT t d v) ∨ (aae t g = some false ∧ t' = putT t d (.tup []) ∧ H' = H) := by
 unfold stepA at h
 simp only [opsA] at h
 split at h
 ·rename_i hw
  split at h
  ·rename_i v H1 hv
   cases h
   exact .inl ⟨hw, v, hv, rfl⟩
  ·cases h
 ·rename_i hw
  cases h
  exact .inr ⟨hw, rfl, rfl⟩
 ·cases h
structure Seen (nt : Nat) (T0 : Tm) (d : DOp) (u t : Tm) : Prop where
 lu : u.length = T0.length
 lt : t.length = T0.length
 at' : ∀ n ∈ d.slots, n < T0.length ∧ getT t n = getT u n
theorem Seen.guard {nt : Nat} {T0 : Tm} {d : DOp} {u t : Tm} (h : Seen nt T0 d u t) : aae t d.guard = aae u d.guard :=
 akj (h.lt.trans h.lu.symm) fun n w e => by
  obtain ⟨h1, h2⟩ := h.at' n (by unfold DOp.slots; rw [e]; simp)
  exact ⟨by rw [h.lt]; exact h1, h2⟩
theorem Seen.ev {nt : Nat} {T0 : Tm} {d : DOp} {u t : Tm} (h : Seen nt T0 d u t) : ∀ s, (∀ n ∈ srcT s, n ∈ d.op.slots) → Src.ev t s = Src.ev u s :=
 ev_slots fun n hn => (h.at' n (by unfold DOp.slots; exact List.mem_append_left _ hn)).2
theorem aht {nt : Nat} {T0 : Tm} {pre : List DOp} {d : DOp} {Vs Vs' : List AV} (hT0 : T0.length = nt) (hlv : Vs.length = pre.length) (hp : Vs <+: Vs')
  (hs : ∀ n ∈ d.slots, n < nt ∧ useOf d.uses n = some (aa2 pre n)) : Seen nt T0 d (useT T0 Vs' d.uses) (aar T0 pre Vs) := by
 refine ⟨(aij _ _ _).1, ab5 _ _ _, fun n hn => ?_⟩
 obtain ⟨h1, h2⟩ := hs n hn
 rw [← hT0] at h1
 refine ⟨h1, ?_⟩
 rw [ame h1 h2, ac7 _ _ _ _ hlv h1]
 exact (useV_pre hp fun j hj => by rw [hlv]; exact agx _ _ _ hj).symm
theorem ahj {nt total acts i : Nat} {ds : List DOp} {d : DOp} (h : okD1 nt ds total acts i d = true) : ∀ n ∈ d.slots, n < nt ∧ useOf d.uses n = some (aa2 (ds.take i) n) := by
 unfold okD1 at h
 simp only [Bool.and_eq_true, List.all_eq_true] at h
 intro n hn
 have := h.1 n hn
 exact ⟨Nat.le_of_ble_eq_true this.1, of_decide_eq_true this.2⟩
theorem pure_op {op : AOp} {cal : Cal} {ev : Src → AV} {H H' : Heap} {id : Nat} {v : AV} (hp : op.isPure = true) (h : opA cal ev H id op = some (v, H')) : pureA ev op = some v := by
 cases op <;> simp only [AOp.isPure] at hp <;> first | (cases hp; done) | skip
 all_goals
  simp only [opA] at h
  split at h
  ·rename_i u hu
   cases h
   exact hu
  ·simp [heapA] at h
theorem aob {op : AOp} {cal : Cal} {T : Tm} {H H' : Heap} {id : Nat} {v : AV} (hp : op.looks = true) (h : opA cal (Src.ev T) H id op = some (v, H')) : pureA (Src.ev T) op = none ∧ heapA (Src.ev T) H 0 op = some (v, H) := by
 have h1 : pureA (Src.ev T) op = none := by cases op <;> simp only [AOp.looks] at hp <;> first | (cases hp; done) | rfl
 refine ⟨h1, ajx (fun b e hb => hb) hp (D := H) (D' := H') (i := id) ?_⟩
 cases op <;> simp only [AOp.looks] at hp <;> first | (cases hp; done) | skip
 all_goals
  simp only [opA, h1] at h
  exact h
theorem make_op {op : AOp} {cal : Cal} {T : Tm} {H H' : Heap} {id : Nat} {v : AV} (hp : op.makes = true) (h : opA cal (Src.ev T) H id op = some (v, H')) : heapA (Src.ev T) H id op = some (v, H') := by
 have h1 : pureA (Src.ev T) op = none := by cases op <;> simp only [AOp.makes] at hp <;> first | (cases hp; done) | rfl
 cases op <;> simp only [AOp.makes] at hp <;> first | (cases hp; done) | skip
 all_goals
  simp only [opA, h1] at h
  exact h
theorem Tr.nil_get0 (b : Nat) : Tr.nil.get b = none := by
 have : ∀ {α : Type} (d : D8) (x : α), Q.at d (Q.all x) = x := fun d x => by cases d <;> rfl
 unfold Tr.get Tr.nil
 cases Nat.ble b 16777215 with
 | false => rfl
 | true => simp only [this]
theorem Tr.nil_get (n b : Nat) : Heap.get (Heap.nil n) b = none := by
 have h : Nat.ble (Nat.succ b) 0 = false := rfl
 unfold Heap.nil Heap.get
 simp only [h]
 exact Tr.nil_get0 b
theorem step1 {calF : CalK} {calA : Cal} (hc : ab7 calF calA) {nt total acts i x : Nat} {T0 : Tm} {ds : List DOp} {d : DOp} (hi : (ds.take i).length = i) (hok : okD1 nt ds total acts i d = true) (hT0 : T0.length = nt)
  {T : Tq} {CsF : List Heap} {EsF : List (Option Ent)} {s : DS} (hR : DRel nt T0 (ds.take i) acts T CsF EsF s) {n : DK} {r : AV × Heap} (hr : denD1 nt acts i d calF x T CsF EsF n = some r) :
  ∃ s' T', aau calA x T0 i d s = some s' ∧ DRel nt T0 (ds.take i ++ [d]) (if d.cls = 2 then acts + 1 else acts) T' s'.Cs.reverse s'.Es.reverse s' ∧ n T' s'.Cs.reverse s'.Es.reverse = some r := by
 have hslots := ahj hok
 have hS := aht hT0 hR.lv (List.prefix_rfl) hslots
 have hgd := hS.guard
 have hop : ∀ (H : Heap) (id : Nat), opA calA (Src.ev (aar T0 (ds.take i) s.Vs)) H id d.op = opA calA (Src.ev (useT T0 s.Vs d.uses)) H id d.op := fun H id => ajp hS.ev
 have run : ∀ {Hk : Heap} {K : K1}, denOp nt i ⟨d.dst, d.op, d.guard⟩ calF x T Hk K = some r →
   ∃ v H' T', TRel nt T' (aar T0 (ds.take i ++ [d]) (s.Vs ++ [v])) ∧ K T' H' = some r ∧
    ((aae (useT T0 s.Vs d.uses) d.guard = some true ∧ opA calA (Src.ev (useT T0 s.Vs d.uses)) Hk (x + i) d.op = some (v, H')) ∨
     (aae (useT T0 s.Vs d.uses) d.guard = some false ∧ v = .tup [] ∧ H' = Hk)) := by
  intro Hk K hr
  obtain ⟨t', H', T', h1, h2, h3⟩ := adq ⟨d.dst, d.op, d.guard⟩ calF calA hc T _ Hk K x r hR.t hr
  rcases alz h1 with ⟨hw, v, hv, e⟩ | ⟨hw, e, e2⟩
  ·refine ⟨v, H', T', ?_, h3, .inl ⟨hgd ▸ hw, by rw [← hop]; exact hv⟩⟩
   rw [acb _ _ _ _ _ hR.lv.symm, ← e]; exact h2
  ·refine ⟨.tup [], H', T', ?_, h3, .inr ⟨hgd ▸ hw, rfl, e2⟩⟩
   rw [acb _ _ _ _ _ hR.lv.symm, ← e]; exact h2
 have hle : s.Es.length = i := hR.le.trans hi
 have hok2 := hok
 unfold okD1 at hok2
 simp only [Bool.and_eq_true] at hok2
 obtain ⟨-, hok2⟩ := hok2
 unfold denD1 at hr
 rw [hR.c, hR.e] at hr
 have h3 : d.cls = 0 ∨ d.cls = 1 ∨ d.cls = 2 := by
  split at hok2
  ·rename_i h; exact .inl h
  ·rename_i h; exact .inr (.inl h)
  ·rename_i h; exact .inr (.inr h)
  ·cases hok2
 rcases h3 with hcls | hcls | hcls
 ·simp only [hcls] at hok2 hr
  have h20 : ¬ (d.cls = 2) := by rw [hcls]; decide
  have fin : ∀ v T', TRel nt T' (aar T0 (ds.take i ++ [d]) (s.Vs ++ [v])) → DRel nt T0 (ds.take i ++ [d]) (if d.cls = 2 then acts + 1 else acts) T' s.Cs.reverse (s.Es ++ [none]).reverse ⟨s.Vs ++ [v], s.Cs, s.Es ++ [none]⟩ := fun v T' hT' =>
   ⟨hT', rfl, rfl, by simp [hR.lv], by simp [hR.le], by rw [if_neg h20]; exact hR.lc⟩
  have erev : (s.Es ++ [none]).reverse = none :: s.Es.reverse := by simp
  by_cases hlook : d.op.looks = true
  ·rw [if_pos hlook] at hok2 hr
   cases hl : d.looks with
   | nil => simp [hl] at hok2
   | cons p ps =>
    simp only [hl] at hok2 hr
    rw [Bool.and_eq_true] at hok2
    obtain ⟨hp1, hp2⟩ := aff hok2.1
    unfold dl at hr
    rw [ak0 hR.lc hle hp1 hp2] at hr
    obtain ⟨v, H', T', hT', hk, hv⟩ := run hr
    refine ⟨⟨s.Vs ++ [v], s.Cs, s.Es ++ [none]⟩, T', ?_, fin v T' hT', by rw [erev]; exact hk⟩
    rcases hv with ⟨hw, hv⟩ | ⟨hw, rfl, -⟩
    ·obtain ⟨g1, g2⟩ := aob hlook hv
     simp only [aau, hw, hcls, g1, hl, hlook, if_true, g2]
    ·simp only [aau, hw, hcls]
  ·rw [if_neg hlook] at hok2 hr
   unfold dl at hr
   obtain ⟨v, H', T', hT', hk, hv⟩ := run hr
   refine ⟨⟨s.Vs ++ [v], s.Cs, s.Es ++ [none]⟩, T', ?_, fin v T' hT', by rw [erev]; exact hk⟩
   rcases hv with ⟨hw, hv⟩ | ⟨hw, rfl, -⟩
   ·simp only [aau, hw, hcls, pure_op hok2 hv]
   ·simp only [aau, hw, hcls]
 ·simp only [hcls] at hok2 hr
  have h20 : ¬ (d.cls = 2) := by rw [hcls]; decide
  unfold dm at hr
  obtain ⟨v, H', T', hT', hk, hv⟩ := run hr
  refine ⟨⟨s.Vs ++ [v], s.Cs, s.Es ++ [H'.get (x + i)]⟩, T', ?_, ⟨hT', rfl, rfl, by simp [hR.lv], by simp [hR.le], by rw [if_neg h20]; exact hR.lc⟩, by simp only [List.reverse_append, List.reverse_cons, List.reverse_nil, List.nil_append, List.singleton_append]; exact hk⟩
  rcases hv with ⟨hw, hv⟩ | ⟨hw, rfl, rfl⟩
  ·simp only [aau, hw, hcls, hok2, if_true, make_op hok2 hv]
  ·simp only [aau, hw, hcls, Tr.nil_get]
 ·simp only [hcls] at hok2 hr
  cases hl : d.looks with
  | nil => simp [hl] at hok2
  | cons p ps =>
  cases ps with
  | cons p' ps => simp [hl] at hok2
  | nil =>
   simp only [hl] at hok2 hr
   obtain ⟨hp1, hp2⟩ := aff hok2
   obtain ⟨k, adds⟩ := p
   unfold da at hr
   rw [ak0 hR.lc hle hp1 hp2] at hr
   obtain ⟨v, H', T', hT', hk, hv⟩ := run hr
   refine ⟨⟨s.Vs ++ [v], s.Cs ++ [H'], s.Es ++ [none]⟩, T', ?_, ⟨hT', rfl, rfl, by simp [hR.lv], by simp [hR.le], by rw [if_pos hcls]; simp [hR.lc]⟩, by simp only [List.reverse_append, List.reverse_cons, List.reverse_nil, List.nil_append, List.singleton_append]; exact hk⟩
   rcases hv with ⟨hw, hv⟩ | ⟨hw, rfl, rfl⟩
   ·simp only [aau, hw, hcls, hl, hv]
   ·simp only [aau, hw, hcls, hl]
/-! ### All of them -/
theorem ajb {ds : List DOp} {i : Nat} {d : DOp} {rest : List DOp} (h : ds.drop i = d :: rest) : ds.take i ++ [d] = ds.take (i + 1) ∧ ds.drop (i + 1) = rest ∧ i < ds.length ∧ ds[i]? = some d := by
 have hi : i < ds.length := by
  rcases Nat.lt_or_ge i ds.length with h' | h'
  ·exact h'
  ·rw [List.drop_eq_nil_of_le h'] at h; cases h
 have h2 := List.drop_eq_getElem_cons hi
 rw [h] at h2
 simp only [List.cons.injEq] at h2
 exact ⟨by rw [List.take_succ_eq_append_getElem hi, h2.1], h2.2.symm, hi, by rw [List.getElem?_eq_getElem hi, h2.1]⟩
theorem aor {calF : CalK} {calA : Cal} (hc : ab7 calF calA) {nt total x : Nat} {T0 : Tm} {ds : List DOp} (hT0 : T0.length = nt) :
  ∀ (rest : List DOp) (acts i : Nat) (T : Tq) (CsF : List Heap) (EsF : List (Option Ent)) (s : DS) (n : DK) (r : AV × Heap), ds.drop i = rest → i ≤ ds.length → okDs nt ds total acts i rest = true →
   DRel nt T0 (ds.take i) acts T CsF EsF s → denD nt acts i rest calF x T CsF EsF n = some r →
   ∃ s' T', ab4 calA x T0 i rest s = some s' ∧ DRel nt T0 ds (acts + (rest.filter fun d => d.cls == 2).length) T' s'.Cs.reverse s'.Es.reverse s' ∧ n T' s'.Cs.reverse s'.Es.reverse = some r
 | [], acts, i, T, CsF, EsF, s, n, r, hd, hi, hok, hR, hr => by
  have hlen : ds.length ≤ i := List.drop_eq_nil_iff.1 hd
  rw [List.take_of_length_le hlen] at hR
  have hr : n T CsF EsF = some r := hr
  have e1 := hR.c
  have e2 := hR.e
  subst e1
  subst e2
  exact ⟨s, T, rfl, by simpa using hR, hr⟩
 | d :: rest, acts, i, T, CsF, EsF, s, n, r, hd, hi, hok, hR, hr => by
  obtain ⟨g1, g2, g3, g4⟩ := ajb hd
  simp only [okDs, Bool.and_eq_true] at hok
  have hr : denD1 nt acts i d calF x T CsF EsF (fun T Cs Es => denD nt (if d.cls = 2 then acts + 1 else acts) (i + 1) rest calF x T Cs Es n) = some r := hr
  obtain ⟨s1, T1, h1, h2, h3⟩ := step1 hc (by rw [List.length_take]; omega) hok.1 hT0 hR hr
  rw [g1] at h2
  obtain ⟨s2, T2, k1, k2, k3⟩ := aor hc hT0 rest _ (i + 1) T1 _ _ s1 n r g2 (by omega) hok.2 h2 h3
  refine ⟨s2, T2, by simp only [ab4, h1]; exact k1, ?_, k3⟩
  have e : acts + ((d :: rest).filter fun d => d.cls == 2).length = (if d.cls = 2 then acts + 1 else acts) + (rest.filter fun d => d.cls == 2).length := by
   rw [List.filter_cons]
   by_cases hd2 : d.cls = 2
   ·simp [hd2]; omega
   ·simp [hd2]
  rw [e]
  exact k2
theorem aj9 {nt total : Nat} {ds : List DOp} : ∀ (rest : List DOp) (acts i : Nat), okDs nt ds total acts i rest = true → ∀ (q : Nat) (d : DOp), rest[q]? = some d → ∃ acts', acts' = acts + ((rest.take q).filter fun d => d.cls == 2).length ∧ okD1 nt ds total acts' (i + q) d = true
 | [], acts, i, h, q, d, hq => by simp at hq
 | d0 :: rest, acts, i, h, q, d, hq => by
  simp only [okDs, Bool.and_eq_true] at h
  cases q with
  | zero => simp at hq; subst hq; exact ⟨acts, by simp, h.1⟩
  | succ q =>
   obtain ⟨a', e, h'⟩ := aj9 rest _ _ h.2 q d (by simpa using hq)
   refine ⟨a', ?_, by rw [show i + (q + 1) = i + 1 + q by omega]; exact h'⟩
   rw [e, List.take_succ_cons, List.filter_cons]
   by_cases hd2 : d0.cls = 2
   ·simp [hd2]; omega
   ·simp [hd2]
theorem okD1_cls {nt total acts i : Nat} {ds : List DOp} {d : DOp} (h : okD1 nt ds total acts i d = true) : d.cls = 0 ∨ d.cls = 1 ∨ d.cls = 2 := by
 unfold okD1 at h
 simp only [Bool.and_eq_true] at h
 have hok2 := h.2
 split at hok2
 ·rename_i h; exact .inl h
 ·rename_i h; exact .inr (.inl h)
 ·rename_i h; exact .inr (.inr h)
 ·cases hok2
theorem ckTail {calF : CalK} {calA : Cal} (hc : ab7 calF calA) {nt total x i : Nat} {T0 : Tm} {ds : List DOp} {d : DOp} {xd : Nat} (hd : ds[i]? = some d) (hT0 : T0.length = nt) {T : Tq} {s : DS}
  (hR : DRel nt T0 ds total T s.Cs.reverse s.Es.reverse s) (hS : Seen nt T0 d (useT T0 s.Vs d.uses) (aar T0 ds s.Vs)) (hlook : d.op.looks = true) (hdst : d.dst = some xd) (hx : xd < nt) (hlast : aa2 ds xd = some i)
  (hw : aae (useT T0 s.Vs d.uses) d.guard = some true) :
  ∀ (ps : List (Nat × List Nat)) (c : CKC) (k : R) (r : AV × Heap), (∀ p ∈ ps, okP total ds.length p = true) → ahq nt total ds.length i d ps c calF x T s.Cs.reverse s.Es.reverse k = some r →
   (∀ p ∈ ps, ∃ v H', heapA (Src.ev (useT T0 s.Vs d.uses)) (addE x s.Es (s.Cs.getD p.1 default) p.2) 0 d.op = some (v, H') ∧ AV.beq v (s.Vs.getD i .undef) = true) ∧ c calF x T s.Cs.reverse s.Es.reverse k = some r
 | [], c, k, r, _, hr => ⟨fun p hp => (by cases hp), hr⟩
 | p :: ps, c, k, r, hps, hr => by
  have hr : denOp nt i ⟨d.dst, d.op, d.guard⟩ calF x T (selH (total - p.1) (abp ds.length p.2) x s.Cs.reverse s.Es.reverse) (fun T' _ => @Bool.rec (fun _ => R) none (ahq nt total ds.length i d ps c calF x T s.Cs.reverse s.Es.reverse k) (AV.beq (gtN (d.dst.getD 0) T') (gtN (d.dst.getD 0) T))) = some r := hr
  obtain ⟨hp1, hp2⟩ := aff (hps p (List.mem_cons_self ..))
  rw [ak0 hR.lc hR.le hp1 hp2] at hr
  obtain ⟨t', H', T', h1, h2, h3⟩ := adq ⟨d.dst, d.op, d.guard⟩ calF calA hc T _ _ _ x r hR.t hr
  rcases alz h1 with ⟨-, v, hv, e⟩ | ⟨hw', -, -⟩
  ·rw [ajp hS.ev] at hv
   obtain ⟨-, g2⟩ := aob hlook hv
   obtain ⟨b1, b2⟩ := aai h3
   rw [hdst, Option.getD_some, h2.gt, hR.t.gt, e, hdst] at b1
   have e1 : getT (putT (aar T0 ds s.Vs) (some xd) v) xd = v := by
    simp only [putT, getT, List.getD_eq_getElem?_getD]
    rw [List.getElem?_set_self (by rw [ab5]; omega)]
    rfl
   have e2 : getT (aar T0 ds s.Vs) xd = s.Vs.getD i .undef := by
    rw [ac7 _ _ _ _ hR.lv (by omega), hlast]; rfl
   rw [e1, e2] at b1
   obtain ⟨k1, k2⟩ := ckTail hc hd hT0 hR hS hlook hdst hx hlast hw ps c k r (fun q hq => hps q (List.mem_cons_of_mem _ hq)) b2
   refine ⟨fun q hq => ?_, k2⟩
   rcases List.mem_cons.1 hq with rfl | hq
   ·exact ⟨v, _, g2, b1⟩
   ·exact k1 q hq
  ·rw [hS.guard, hw] at hw'; cases hw'
theorem ckSkip {calF : CalK} {calA : Cal} (hc : ab7 calF calA) {nt total x i : Nat} {T0 : Tm} {ds : List DOp} {d : DOp} {T : Tq} {s : DS}
  (hR : DRel nt T0 ds total T s.Cs.reverse s.Es.reverse s) :
  ∀ (ps : List (Nat × List Nat)) (c : CKC) (k : R) (r : AV × Heap), ahq nt total ds.length i d ps c calF x T s.Cs.reverse s.Es.reverse k = some r → c calF x T s.Cs.reverse s.Es.reverse k = some r
 | [], c, k, r, hr => hr
 | p :: ps, c, k, r, hr => by
  have hr : denOp nt i ⟨d.dst, d.op, d.guard⟩ calF x T (selH (total - p.1) (abp ds.length p.2) x s.Cs.reverse s.Es.reverse) (fun T' _ => @Bool.rec (fun _ => R) none (ahq nt total ds.length i d ps c calF x T s.Cs.reverse s.Es.reverse k) (AV.beq (gtN (d.dst.getD 0) T') (gtN (d.dst.getD 0) T))) = some r := hr
  obtain ⟨t', H', T', h1, h2, h3⟩ := adq ⟨d.dst, d.op, d.guard⟩ calF calA hc T _ _ _ x r hR.t hr
  exact ckSkip hc hR ps c k r (aai h3).2
theorem ckAll {calF : CalK} {calA : Cal} (hc : ab7 calF calA) {nt x : Nat} {T0 : Tm} {ds : List DOp} (hT0 : T0.length = nt) {T : Tq} {s s0 : DS} (hok : okDs nt ds (actsN ds) 0 0 ds = true)
  (hgo : ab4 calA x T0 0 ds s0 = some s) (hs0 : s0.Vs.length = 0 ∧ s0.Es.length = 0 ∧ s0.Cs.length = 1) (hR : DRel nt T0 ds (actsN ds) T s.Cs.reverse s.Es.reverse s) :
  ∀ (rest : List DOp) (i : Nat) (k : R) (r : AV × Heap), ds.drop i = rest → denCk nt (actsN ds) ds.length i rest calF x T s.Cs.reverse s.Es.reverse k = some r → abj x T0 s i rest = true ∧ k = some r
 | [], i, k, r, _, hr => ⟨rfl, hr⟩
 | d :: rest, i, k, r, hd, hr => by
  obtain ⟨g1, g2, g3, g4⟩ := ajb hd
  have hcl : ∀ d ∈ ds, d.cls = 0 ∨ d.cls = 1 ∨ d.cls = 2 := fun d hd => by
   obtain ⟨q, hq⟩ := List.mem_iff_getElem?.1 hd
   obtain ⟨a', -, h'⟩ := aj9 _ _ _ hok q d hq
   exact okD1_cls h'
  obtain ⟨p1, p2, p3, p4, p5⟩ := af2 ds 0 s0 s hcl hgo
  obtain ⟨s1, s2, q1, q2, q3, q4, q5⟩ := p5 i d g4
  rw [Nat.zero_add] at q1
  obtain ⟨acts, ea, hok1⟩ := aj9 _ _ _ hok i d g4
  rw [Nat.zero_add] at ea hok1
  have hslots := ahj hok1
  have hg := acf q1 (hcl d (List.mem_iff_getElem?.2 ⟨i, g4⟩))
  have hp1 : Pre s1 s := hg.1.trans q2
  have hS1 := aht (nt := nt) (Vs := s1.Vs) (Vs' := s1.Vs) (d := d) (pre := ds.take i) hT0 (by rw [q3, List.length_take]; omega) List.prefix_rfl hslots
  have hS2 := aht (nt := nt) (Vs := s1.Vs) (Vs' := s.Vs) (d := d) (pre := ds.take i) hT0 (by rw [q3, List.length_take]; omega) hp1.1 hslots
  have hgd : aae (useT T0 s1.Vs d.uses) d.guard = aae (useT T0 s.Vs d.uses) d.guard := hS1.guard.symm.trans hS2.guard
  have hev : ∀ z, (∀ n ∈ srcT z, n ∈ d.op.slots) → Src.ev (useT T0 s1.Vs d.uses) z = Src.ev (useT T0 s.Vs d.uses) z := fun z hz => (hS1.ev z hz).symm.trans (hS2.ev z hz)
  have hpc : pureA (Src.ev (useT T0 s1.Vs d.uses)) d.op = pureA (Src.ev (useT T0 s.Vs d.uses)) d.op := afy hev
  have hhc : ∀ H id, heapA (Src.ev (useT T0 s1.Vs d.uses)) H id d.op = heapA (Src.ev (useT T0 s.Vs d.uses)) H id d.op := fun H id => agd hev
  have hok2 := hok1
  unfold okD1 at hok2
  simp only [Bool.and_eq_true] at hok2
  obtain ⟨-, hok2⟩ := hok2
  simp only [denCk] at hr
  simp only [abj, Bool.and_eq_true]
  by_cases hcond : d.cls = 0 ∧ d.op.looks = true
  ·rw [if_pos hcond] at hr
   obtain ⟨hcls, hlook⟩ := hcond
   simp only [hcls, if_pos hlook] at hok2
   cases hl : d.looks with
   | nil => simp [hl] at hok2
   | cons p ps =>
   simp only [hl, Bool.and_eq_true, Bool.or_eq_true] at hok2
   rw [hl, List.tail_cons] at hr
   cases hw : aae (useT T0 s.Vs d.uses) d.guard with
   | none =>
    rw [hw] at hgd
    simp only [aau, hgd] at q1
    cases q1
   | some b =>
   cases b with
   | false =>
    obtain ⟨k1, k2⟩ := ckAll hc hT0 hok hgo hs0 hR rest (i + 1) k r g2 (ckSkip hc hR ps _ _ _ hr)
    refine ⟨⟨?_, k1⟩, k2⟩
    unfold abe
    simp only [hcls, hw]
   | true =>
    have hpn : pureA (Src.ev (useT T0 s.Vs d.uses)) d.op = none := by cases hop : d.op <;> rw [hop] at hlook <;> simp only [AOp.looks] at hlook <;> first | (cases hlook; done) | rfl
    obtain ⟨o1, o2⟩ := aff hok2.1
    -- the first look is what the evaluator took
    have first : ∃ H', heapA (Src.ev (useT T0 s.Vs d.uses)) (addE x s.Es (s.Cs.getD p.1 default) p.2) 0 d.op = some (s.Vs.getD i .undef, H') := by
     rw [hw] at hgd
     rw [hpn] at hpc
     simp only [aau, hgd, hcls, hpc, hl, hlook, if_true] at q1
     rw [hhc] at q1
     split at q1
     ·rename_i v H' hv
      cases q1
      have hadd : addE x s1.Es (s1.Cs.getD p.1 default) p.2 = addE x s.Es (s.Cs.getD p.1 default) p.2 := by
       rw [aas hp1.2.1 (by omega) default]
       exact ag8 _ _ _ fun a hm => (aas hp1.2.2 (by have := o2 a hm; omega) _).symm
      rw [hadd] at hv
      have : s.Vs.getD i .undef = v := by
       have h5 := q2.1
       have h6 : s1.Vs.length = i := by omega
       rw [← h6]; exact aec h5 _
      rw [this]
      exact ⟨H', hv⟩
     ·cases q1
    have rest' : (∀ p ∈ ps, ∃ v H', heapA (Src.ev (useT T0 s.Vs d.uses)) (addE x s.Es (s.Cs.getD p.1 default) p.2) 0 d.op = some (v, H') ∧ AV.beq v (s.Vs.getD i .undef) = true) ∧ denCk nt (actsN ds) ds.length (i + 1) rest calF x T s.Cs.reverse s.Es.reverse k = some r := by
     rcases hok2.2 with he | ⟨⟨h6, h7⟩, h8⟩
     ·have : ps = [] := by simpa using he
      subst this
      exact ⟨fun p hp => (by cases hp), hr⟩
     ·cases hdst : d.dst with
      | none => rw [hdst] at h8; cases h8
      | some xd =>
       rw [hdst] at h8
       simp only [Bool.and_eq_true] at h8
       have hx : xd < nt := Nat.le_of_ble_eq_true h8.1
       have hlast := of_decide_eq_true h8.2
       have hSe : Seen nt T0 d (useT T0 s.Vs d.uses) (aar T0 ds s.Vs) := by
        refine ⟨(aij _ _ _).1, ab5 _ _ _, fun n hn => ?_⟩
        obtain ⟨z1, z2⟩ := hslots n hn
        rw [← hT0] at z1
        have z3 : aa2 ds n = aa2 (ds.take i) n := of_decide_eq_true (List.all_eq_true.1 h7 n hn)
        exact ⟨z1, by rw [ame z1 z2, ac7 _ _ _ _ hR.lv z1, z3]⟩
       exact ckTail hc g4 hT0 hR hSe hlook hdst hx hlast hw ps _ _ _ (fun p hp => List.all_eq_true.1 h6 p hp) hr
    obtain ⟨k1, k2⟩ := ckAll hc hT0 hok hgo hs0 hR rest (i + 1) k r g2 rest'.2
    refine ⟨⟨?_, k1⟩, k2⟩
    unfold abe
    simp only [hcls, hw, hpn, hl, List.all_cons, Bool.and_eq_true, List.all_eq_true]
    obtain ⟨H', hH'⟩ := first
    refine ⟨by rw [hH']; exact AV.beq_refl _, fun p hp => ?_⟩
    obtain ⟨v, H2, h9, h10⟩ := rest'.1 p hp
    rw [h9]; exact h10
  ·rw [if_neg hcond] at hr
   obtain ⟨k1, k2⟩ := ckAll hc hT0 hok hgo hs0 hR rest (i + 1) k r g2 hr
   refine ⟨⟨?_, k1⟩, k2⟩
   unfold abe
   by_cases hcls : d.cls = 0
   ·have hlook : d.op.looks = false := by
     cases h : d.op.looks with
     | false => rfl
     | true => exact absurd ⟨hcls, h⟩ hcond
    cases hw : aae (useT T0 s.Vs d.uses) d.guard with
    | none => simp only [hcls]
    | some b =>
    cases b with
    | false => simp only [hcls]
    | true =>
     cases hpv : pureA (Src.ev (useT T0 s.Vs d.uses)) d.op with
     | some v => simp only [hcls]
     | none =>
      exfalso
      rw [hw] at hgd
      rw [hpv] at hpc
      simp only [aau, hgd, hcls, hpc, hlook] at q1
      split at q1
      ·rename_i h; simp at q1
      ·cases q1
   ·split
    ·rename_i h _ _; exact absurd h hcls
    ·rfl
theorem imp_draw {m : Nat} {rd : Bool} {nt : Nat} {ds : List DOp} {late : List Nat} (hok : aju nt ds late = true) : Imp m rd nt (ak6 nt ds late) (.draw ds late) := by
 intro calF calA hc T t H n e r hT hr
 unfold aju at hok
 simp only [Bool.and_eq_true, List.all_eq_true] at hok
 obtain ⟨hok, hlate⟩ := hok
 have hT0 : t.length = nt := hT.len
 have hr : denD nt 0 0 ds calF H.next T [⟨H.next + ds.length, H.tr, H.lim, H.ovr⟩] [] (fun T Cs Es => denCk nt (actsN ds) ds.length 0 ds calF H.next T Cs Es (n T (addF H.next Es (abp ds.length late) (nthH Cs 0)))) = some r := hr
 have hR0 : DRel nt t (ds.take 0) 0 T [⟨H.next + ds.length, H.tr, H.lim, H.ovr⟩] [] ⟨[], [{ H with next := H.next + ds.length }], []⟩ := ⟨hT, rfl, rfl, rfl, rfl, rfl⟩
 obtain ⟨s, T', h1, h2, h3⟩ := aor hc hT0 ds 0 0 T _ _ _ _ r rfl (Nat.zero_le _) hok hR0 hr
 rw [Nat.zero_add] at h2
 obtain ⟨k1, k2⟩ := ckAll hc hT0 hok h1 ⟨rfl, rfl, rfl⟩ h2 ds 0 _ r rfl h3
 refine ⟨.nrm, aar t ds s.Vs, addE H.next s.Es (s.Cs.getLastD default) late, T', ?_, h2.t, ?_⟩
 ·simp only [codeA, drawA, h1, k1, if_true]
 ·have e1 : nthH s.Cs.reverse 0 = s.Cs.getLastD default := by
   rw [aki]
   have hne := h2.lc
   rcases List.eq_nil_or_concat s.Cs with h | ⟨l, a, h⟩
   ·rw [h] at hne; simp at hne
   ·rw [h]; simp
  rw [e1, akr h2.le _ _ (fun a ha => Nat.le_of_ble_eq_true (hlate a ha))] at k2
  exact k2
end Go.Proofs.YtcmbokfnglkfnaaGreatDoor.Ev

namespace Go.Proofs.YtcmbokfnglkfnaaGreatDoor.Ev
open Go
set_option linter.all false
/-! ### How many slots: that stays -/
theorem aif (t : Tm) (d : Option Nat) (v : AV) : (putT t d v).length = t.length := by cases d <;> simp [putT]
theorem afe {cal : Cal} : ∀ (os : List ROp) (id : Nat) (t : Tm) (H : Heap) (t' : Tm) (H' : Heap), opsA cal id os t H = some (t', H') → t'.length = t.length
 | [], id, t, H, t', H', h => by cases h; rfl
 | o :: os, id, t, H, t', H', h => by
  simp only [opsA] at h
  split at h
  ·split at h
   ·rw [afe os _ _ _ _ _ h, aif]
   ·cases h
  ·rw [afe os _ _ _ _ _ h, aif]
  ·cases h
theorem acl : ∀ (ds : List DOp) (Vs : List AV) (T : Tm), (aar T ds Vs).length = T.length
 | [], [], T => rfl
 | [], _ :: _, T => rfl
 | _ :: _, [], T => rfl
 | d :: ds, v :: Vs, T => by
  simp only [aar]
  rw [acl ds Vs, aif]
theorem alf {f : Tm → Heap → Option (Ex × Tm × Heap)} (h : ∀ t H x t' H', f t H = some (x, t', H') → t'.length = t.length) : ∀ (k : Nat) (t : Tm) (H : Heap) (x : Ex) (t' : Tm) (H' : Heap), iter f k t H = some (x, t', H') → t'.length = t.length
 | 0, t, H, x, t', H', hr => by cases hr
 | k + 1, t, H, x, t', H', hr => by
  simp only [iter] at hr
  split at hr
  ·rename_i T1 H1 h1
   rw [alf h k _ _ _ _ _ hr]
   exact h _ _ _ _ _ h1
  ·exact h _ _ _ _ _ hr
theorem ajk {l : Nat} {f : Tm → Heap → Option (Ex × Tm × Heap)} (h : ∀ t H x t' H', f t H = some (x, t', H') → t'.length = t.length) : ∀ (k : Nat) (t : Tm) (H : Heap) (x : Ex) (t' : Tm) (H' : Heap), iterG l f k t H = some (x, t', H') → t'.length = t.length
 | 0, t, H, x, t', H', hr => by cases hr
 | k + 1, t, H, x, t', H', hr => by
  simp only [iterG] at hr
  split at hr
  ·rename_i l' T1 H1 h1
   split at hr
   ·rw [ajk h k _ _ _ _ _ hr]
    exact h _ _ _ _ _ h1
   ·cases hr
  ·exact h _ _ _ _ _ hr
theorem aoa {cal : Cal} {m : Nat} {rd : Bool} : ∀ (ac : ACode) (t : Tm) (H : Heap) (x : Ex) (t' : Tm) (H' : Heap), codeA cal m rd ac t H = some (x, t', H') → t'.length = t.length := by
 intro ac
 induction ac with
 | skip => intro t H x t' H' h; cases h; rfl
 | exit i => intro t H x t' H' h; cases h; rfl
 | goto l => intro t H x t' H' h; cases h; rfl
 | ret => intro t H x t' H' h; cases h; rfl
 | region ops =>
  intro t H x t' H' h
  simp only [codeA] at h
  split at h
  ·rename_i T1 H1 h1
   cases h
   exact afe _ _ _ _ _ _ h1
  ·cases h
 | draw ds late =>
  intro t H x t' H' h
  simp only [codeA] at h
  split at h
  ·rename_i T1 H1 h1
   cases h
   unfold drawA at h1
   split at h1
   ·cases h1
   ·split at h1
    ·cases h1; exact acl _ _ _
    ·cases h1
  ·cases h
 | seq a b iha ihb =>
  intro t H x t' H' h
  simp only [codeA] at h
  split at h
  ·rename_i T1 H1 h1
   rw [ihb _ _ _ _ _ h]
   exact iha _ _ _ _ _ h1
  ·exact iha _ _ _ _ _ h
 | cond s a b iha ihb =>
  intro t H x t' H' h
  simp only [codeA] at h
  split at h
  ·exact iha _ _ _ _ _ h
  ·exact ihb _ _ _ _ _ h
  ·cases h
 | block id a iha =>
  intro t H x t' H' h
  simp only [codeA] at h
  split at h
  ·rename_i i T1 H1 h1
   split at h <;> (cases h; exact iha _ _ _ _ _ h1)
  ·exact iha _ _ _ _ _ h
 | loop a iha =>
  intro t H x t' H' h
  simp only [codeA] at h
  exact alf iha _ _ _ _ _ _ h
 | scope a iha =>
  intro t H x t' H' h
  simp only [codeA] at h
  split at h
  ·cases h
  ·exact iha _ _ _ _ _ h
 | scopeL a l rest iha ihr =>
  intro t H x t' H' h
  simp only [codeA] at h
  split at h
  ·rename_i l' T1 H1 h1
   split at h
   ·rw [ajk ihr _ _ _ _ _ _ h]
    exact iha _ _ _ _ _ h1
   ·cases h
  ·exact iha _ _ _ _ _ h
 | drawF ds late last mid =>
  intro t H x t' H' h
  simp only [codeA] at h
  split at h
  ·rename_i T1 H1 h1
   cases h
   unfold ad6 at h1
   repeat' (split at h1)
   all_goals first | (cases h1; exact acl _ _ _) | (cases h1; done)
  ·cases h
 | rangeM pre x it nx ex b1 b2 en os rest W ih =>
  intro t H x' t' H' h
  simp only [codeA] at h
  split at h
  ·cases h
  ·rename_i T1 H1 h1
   split at h
   ·split at h
    ·split at h
     ·cases h
      rw [← afe _ _ _ _ _ _ h1]
      simp [weakT]
     ·cases h
    ·cases h
   ·cases h
 | rangeFunc f ps asg body iha ihb =>
  intro t H x t' H' h
  simp only [codeA] at h
  repeat' (split at h)
  all_goals first | (cases h; rfl) | (cases h; done)
/-! ### Code -/
theorem aeb {m : Nat} {rd : Bool} {nt : Nat} (ac : ACode) : Imp m rd nt (cSlow m rd nt ac) ac := by
 intro calF calA hc T t H n e r hT hr
 unfold cSlow at hr
 rw [hT.toL] at hr
 obtain ⟨⟨x, t', H'⟩, h1, h2⟩ := aay hr
 refine ⟨x, t', H', ofL t', aa8 (fun tk H r hr => ?_) _ _ _ _ h1, TRel.ofL hT.le ((aoa _ _ _ _ _ _ h1).trans hT.len), h2⟩
 exact ahs hc hr
theorem ani {n n' : K1} {e : Nat → K1} {x : Ex} (hx : x ≠ .nrm) : kont n e x = kont n' e x := by
 cases x <;> first | rfl | exact absurd rfl hx
theorem imp_loop {m0 : Nat} {rd : Bool} {nt : Nat} {c : Comp} {ac : ACode} (h : Imp m0 rd nt c ac) : ∀ (calF : CalK) (calA : Cal), ab7 calF calA → ∀ (k : Nat) (T : Tq) (t : Tm) (H : Heap) (n : K1) (e : Nat → K1) (r : AV × Heap), TRel nt T t → clz k c calF T H n e = some r →
  ∃ x t' H' T', iter (codeA calA m0 rd ac) k t H = some (x, t', H') ∧ TRel nt T' t' ∧ kont n e x T' H' = some r := by
 intro calF calA hc k
 induction k with
 | zero => intro T t H n e r hT hr; cases hr
 | succ k ih =>
  intro T t H n e r hT hr
  have hr : c calF T H (fun T H => clz k c calF T H n e) e = some r := by
   have : clz (k + 1) c calF T H n e = @Bool.rec (fun _ => R) (c calF T H (fun T H => clz k c calF T H n e) e) (c calF T H (fun T H => clz k c calF T H n e) e) (Nat.ble H.next 0) := rfl
   rw [this] at hr
   cases hb : Nat.ble H.next 0 <;> rw [hb] at hr <;> exact hr
  obtain ⟨x, t1, H1, T1, h1, h2, h3⟩ := h calF calA hc T t H _ e r hT hr
  by_cases hx : x = .nrm
  ·subst hx
   obtain ⟨x2, t2, H2, T2, k1, k2, k3⟩ := ih T1 t1 H1 n e r h2 h3
   exact ⟨x2, t2, H2, T2, by simp only [iter, h1]; exact k1, k2, k3⟩
  ·refine ⟨x, t1, H1, T1, ?_, h2, by rw [ani hx]; exact h3⟩
   simp only [iter, h1]
   cases x <;> first | rfl | exact absurd rfl hx
theorem imp_den {m : Nat} {rd : Bool} {nt : Nat} : ∀ (ac : ACode), Imp m rd nt (den m rd nt ac) ac := by
 intro ac
 induction ac with
 | skip => intro calF calA hc T t H n e r hT hr; exact ⟨.nrm, t, H, T, rfl, hT, hr⟩
 | exit i => intro calF calA hc T t H n e r hT hr; exact ⟨.exit i, t, H, T, rfl, hT, hr⟩
 | goto i => intro calF calA hc T t H n e r hT hr; exact ⟨.goto i, t, H, T, rfl, hT, hr⟩
 | ret => intro calF calA hc T t H n e r hT hr; exact ⟨.ret, t, H, T, rfl, hT, hr⟩
 | draw ds late =>
  show Imp m rd nt (if aju nt ds late = true then ak6 nt ds late else cSlow m rd nt (.draw ds late)) _
  by_cases hok : aju nt ds late = true
  ·rw [if_pos hok]; exact imp_draw hok
  ·rw [if_neg hok]; exact aeb _
 | rangeFunc f ps asg body iha ihb => exact aeb _
 | drawF ds late last mid => exact aeb _
 | rangeM pre x it nx ex b1 b2 en os rest W ih => exact aeb _
 | scopeL a l rest _ _ => exact aeb _
 | region ops =>
  intro calF calA hc T t H n e r hT hr
  obtain ⟨t', H', T', h1, h2, h3⟩ := alj ops 0 calF calA hc T t _ n H.next r hT hr
  refine ⟨.nrm, t', H', T', ?_, h2, h3⟩
  simp only [codeA]
  have h1 : opsA calA H.next ops t { H with next := H.next + ops.length } = some (t', H') := h1
  rw [h1]
 | seq a b iha ihb =>
  intro calF calA hc T t H n e r hT hr
  obtain ⟨x, t1, H1, T1, h1, h2, h3⟩ := iha calF calA hc T t H _ e r hT hr
  by_cases hx : x = .nrm
  ·subst hx
   obtain ⟨x2, t2, H2, T2, k1, k2, k3⟩ := ihb calF calA hc T1 t1 H1 n e r h2 h3
   exact ⟨x2, t2, H2, T2, by simp only [codeA, h1]; exact k1, k2, k3⟩
  ·refine ⟨x, t1, H1, T1, ?_, h2, by rw [ani hx]; exact h3⟩
   simp only [codeA, h1]
   cases x <;> first | rfl | exact absurd rfl hx
 | cond s a b iha ihb =>
  intro calF calA hc T t H n e r hT hr
  have hr : condA (srcG s T) (den m rd nt a calF T H n e) (den m rd nt b calF T H n e) = some r := hr
  rw [hT.ev] at hr
  simp only [codeA]
  generalize s.ev t = v at hr ⊢
  cases v with
  | bool b =>
   cases b
   ·exact ihb calF calA hc T t H n e r hT hr
   ·exact iha calF calA hc T t H n e r hT hr
  | _ => cases hr
 | block id a iha =>
  intro calF calA hc T t H n e r hT hr
  obtain ⟨x, t1, H1, T1, h1, h2, h3⟩ := iha calF calA hc T t H n _ r hT hr
  have beq_f : ∀ a b : Nat, a ≠ b → Nat.beq a b = false := fun a b hab => by
   cases hb : Nat.beq a b with
   | false => rfl
   | true => exact absurd (Nat.eq_of_beq_eq_true hb) hab
  cases x with
  | nrm => exact ⟨.nrm, t1, H1, T1, by simp only [codeA, h1], h2, h3⟩
  | ret =>
   refine ⟨.ret, t1, H1, T1, by simp only [codeA, h1], h2, ?_⟩
   simp only [kont, ae2] at h3 ⊢
   rw [beq_f 0 (2 * id + 1) (by omega)] at h3
   exact h3
  | goto l =>
   refine ⟨.goto l, t1, H1, T1, by simp only [codeA, h1], h2, ?_⟩
   simp only [kont, ae2] at h3 ⊢
   rw [beq_f (2 * l + 2) (2 * id + 1) (by omega)] at h3
   exact h3
  | exit i =>
   simp only [kont, ae2] at h3
   by_cases hi : i = id
   ·subst hi
    refine ⟨.nrm, t1, H1, T1, by simp only [codeA, h1, if_true], h2, ?_⟩
    rw [Nat.beq_refl] at h3
    exact h3
   ·refine ⟨.exit i, t1, H1, T1, by simp only [codeA, h1, if_neg hi], h2, ?_⟩
    rw [beq_f (2 * i + 1) (2 * id + 1) (by omega)] at h3
    exact h3
 | loop a iha =>
  intro calF calA hc T t H n e r hT hr
  exact imp_loop iha calF calA hc m T t H n e r hT hr
 | scope a iha =>
  intro calF calA hc T t H n e r hT hr
  obtain ⟨x, t1, H1, T1, h1, h2, h3⟩ := iha calF calA hc T t H _ _ r hT hr
  cases x with
  | nrm => exact ⟨.nrm, t1, H1, T1, by simp only [codeA, h1], h2, h3⟩
  | ret => exact ⟨.ret, t1, H1, T1, by simp only [codeA, h1], h2, h3⟩
  | exit i =>
   refine ⟨.exit i, t1, H1, T1, by simp only [codeA, h1], h2, ?_⟩
   simp only [kont, ae2] at h3 ⊢
   have e1 : Nat.beq (Nat.mod (2 * i + 1) 2) 0 = false := by
    have : Nat.mod (2 * i + 1) 2 = 1 := by show (2 * i + 1) % 2 = 1; omega
    rw [this]; rfl
   rw [e1] at h3
   exact h3
  | goto l =>
   exfalso
   simp only [kont, ae2] at h3
   have e1 : Nat.beq (Nat.mod (2 * l + 2) 2) 0 = true := by
    have : Nat.mod (2 * l + 2) 2 = 0 := by show (2 * l + 2) % 2 = 0; omega
    rw [this]; rfl
   have e2 : Nat.beq (2 * l + 2) 0 = false := rfl
   rw [e1, e2] at h3
   cases h3
/-! ### Functions -/
theorem resF_eq {nt : Nat} {T : Tq} {t : Tm} (hT : TRel nt T t) (H : Heap) (rs : List (Nat × Option (Option Nat))) : resF T H rs = aap t H rs := by
 have hf : resF1 T H = resA t H := by
  funext r
  obtain ⟨a, b⟩ := r
  unfold resF1 resA
  simp only [hT.gt]
  cases b with
  | none => rfl
  | some k =>
   generalize getT t a = v
   cases v <;> rfl
 unfold resF
 split
 ·rename_i t0
  rw [hT.gt]
  simp [aap, resA]
 ·unfold aap
  rw [hf]
  rfl
def ag6 (tab : Nat → Option AFn) (ftab : Nat → Option FFn) (m : Nat) : Prop := ∀ f fn, ftab f = some fn → ∃ afn, tab f = some afn ∧ afn.ext = none ∧ fn.nparams = afn.nparams ∧ fn.ntmps = afn.ntmps ∧ afn.ntmps ≤ 512 ∧ afn.nparams ≤ afn.ntmps ∧ fn.results = afn.results ∧ fn.body = den m false afn.ntmps afn.body
theorem al5 {calF : CalK} {calA : Cal} (hc : ab7 calF calA) {m : Nat} {fn : FFn} {afn : AFn} (h1 : fn.nparams = afn.nparams) (h3 : afn.ntmps ≤ 512) (h4 : afn.nparams ≤ afn.ntmps) (h5 : fn.results = afn.results) (h6 : fn.body = den m false afn.ntmps afn.body)
  {args : List AV} {H : Heap} {k : KV} {r : AV × Heap} (hr : runFF fn calF args H k = some r) : ∃ v H', runFn calA m afn args H = some (v, H') ∧ k v H' = some r := by
 unfold runFF at hr
 rw [afj] at hr
 cases hb : Nat.beq args.length fn.nparams with
 | false => rw [hb] at hr; cases hr
 | true =>
  rw [hb] at hr
  have ha : args.length = afn.nparams := (Nat.eq_of_beq_eq_true hb).trans h1
  have hr : fn.body calF (argsT args) H (fun T H => optK (resF T H fn.results) fun v => k v H) (fun j T H => @Bool.rec (fun _ => R) none (optK (resF T H fn.results) fun v => k v H) (Nat.beq j 0)) = some r := hr
  rw [h6] at hr
  obtain ⟨x, t', H', T', e1, e2, e3⟩ := imp_den afn.body calF calA hc _ _ H _ _ r (TRel.args h3 (by omega)) hr
  have fin : optK (resF T' H' fn.results) (fun v => k v H') = some r → ∃ v, aap t' H' afn.results = some v ∧ k v H' = some r := by
   intro h
   obtain ⟨v, hv, hk⟩ := aay h
   rw [resF_eq e2, h5] at hv
   exact ⟨v, hv, hk⟩
  unfold runFn
  rw [if_pos ha, e1]
  cases x with
  | nrm =>
   obtain ⟨v, hv, hk⟩ := fin e3
   exact ⟨v, H', by simp [hv], hk⟩
  | ret =>
   obtain ⟨v, hv, hk⟩ := fin e3
   exact ⟨v, H', by simp [hv], hk⟩
  | exit i =>
   have h0 : Nat.beq (2 * i + 1) 0 = false := rfl
   simp only [kont, ae2, h0] at e3
   cases e3
  | goto i =>
   have h0 : Nat.beq (2 * i + 2) 0 = false := rfl
   simp only [kont, ae2, h0] at e3
   cases e3
end Go.Proofs.YtcmbokfnglkfnaaGreatDoor.Ev
